/-
  A part of the proof: an abstract run of the program, shown to be what the model does, and what it comes to.
-/
import Derived.Test.YthpomdmjckdknaaWmBx
import Derived.Test.YthpomdmjckdknaaWTry
set_option linter.unusedSectionVars false
set_option linter.unnecessarySimpa false
set_option maxRecDepth 100000
set_option linter.unusedVariables false
set_option linter.unusedSimpArgs false
set_option linter.defProp false
namespace Go.Wm.Try1
open Go Go.Wm Go.Proofs
abbrev Str := List UInt8
def strD (s : Str) : D := .str s
def intD (n : Int) : D := .int .i64 n
structure Label where
  key : Str
  val : Str
def Label.d (x : Label) : D := .agg [.str x.key, .str x.val]
structure Taint where
  key : Str
  val : Str
  effect : Int
def Taint.d (x : Taint) : D := .agg [.str x.key, .str x.val, .int .i64 x.effect]
structure Bear where
  key : Str
  val : Str
  any : Bool
  effect : Int
def Bear.d (x : Bear) : D := .agg [.str x.key, .str x.val, .bool x.any, .int .i64 x.effect]
structure Req where
  key : Str
  op : Int
  vals : List Str
def Req.d (x : Req) : D := .agg [.str x.key, .int .i64 x.op, .sl (x.vals.map strD)]
structure Prefer where
  reqs : List Req
  weight : Int
def Prefer.d (x : Prefer) : D := .agg [.sl (x.reqs.map Req.d), .int .i64 x.weight]
structure Term where
  reqs : List Req
  key : Str
def Term.d (x : Term) : D := .agg [.sl (x.reqs.map Req.d), .str x.key]
structure Spread where
  key : Str
  skew : Int
  least : Int
  reqs : List Req
def Spread.d (x : Spread) : D := .agg [.str x.key, .int .i64 x.skew, .int .i64 x.least, .sl (x.reqs.map Req.d)]
structure Res where
  cpu : Int
  mem : Int
  disk : Int
def Res.d (x : Res) : D := .agg [.int .i64 x.cpu, .int .i64 x.mem, .int .i64 x.disk]
structure Pod where
  name : Str
  prio : Int
  labels : List Label
  want : Res
  bears : List Bear
  asks : List Req
  prefers : List Prefer
  ports : List Int
  near : List Term
  apart : List Term
  spreads : List Spread
  claims : List Str
  node : Str
  hope : Str
def Pod.cs (x : Pod) : List D := [.str x.name, .int .i64 x.prio, .sl (x.labels.map Label.d), .int .i64 x.want.cpu, .int .i64 x.want.mem, .int .i64 x.want.disk, .sl (x.bears.map Bear.d), .sl (x.asks.map Req.d), .sl (x.prefers.map Prefer.d), .sl (x.ports.map intD), .sl (x.near.map Term.d), .sl (x.apart.map Term.d), .sl (x.spreads.map Spread.d), .sl (x.claims.map strD), .str x.node, .str x.hope]
def Pod.d (x : Pod) : D := .agg x.cs
structure Node where
  name : Str
  labels : List Label
  taints : List Taint
  off : Bool
  give : Res
  pods : Int
  disks : Int
def Node.cs (x : Node) : List D := [.str x.name, .sl (x.labels.map Label.d), .sl (x.taints.map Taint.d), .bool x.off, .int .i64 x.give.cpu, .int .i64 x.give.mem, .int .i64 x.give.disk, .int .i64 x.pods, .int .i64 x.disks]
def Node.d (x : Node) : D := .agg x.cs
structure Info where
  node : Node
  names : List Str
  used : Res
  ports : List Int
  disks : List Str
def Info.cs (x : Info) : List D := x.node.cs ++ [.sl (x.names.map strD), .int .i64 x.used.cpu, .int .i64 x.used.mem, .int .i64 x.used.disk, .sl (x.ports.map intD), .sl (x.disks.map strD)]
def Info.d (x : Info) : D := .agg x.cs
/-- how long a list may be -/
def Small {α} (l : List α) : Prop := l.length ≤ 1073741824
def Req.ok (x : Req) : Prop := Small x.vals
def Reqs.ok (l : List Req) : Prop := Small l ∧ ∀ r ∈ l, r.ok
def Pod.ok (x : Pod) : Prop := Small x.labels ∧ Small x.bears ∧ Reqs.ok x.asks ∧ (Small x.prefers ∧ ∀ y ∈ x.prefers, Reqs.ok y.reqs) ∧ Small x.ports ∧ (Small x.near ∧ ∀ y ∈ x.near, Reqs.ok y.reqs) ∧ (Small x.apart ∧ ∀ y ∈ x.apart, Reqs.ok y.reqs) ∧ (Small x.spreads ∧ ∀ y ∈ x.spreads, Reqs.ok y.reqs) ∧ Small x.claims
def Node.ok (x : Node) : Prop := Small x.labels ∧ Small x.taints
theorem all_strD (l : List Str) : (l.map strD).all (fun x => x.cells.length == 1) = true := by
  simp only [List.all_map, List.all_eq_true]
  intro x _
  rfl
theorem all_intD (l : List Int) : (l.map intD).all (fun x => x.cells.length == 1) = true := by
  simp only [List.all_map, List.all_eq_true]
  intro x _
  rfl
theorem all_Labeld (l : List Label) : (l.map Label.d).all (fun x => x.cells.length == 2) = true := by
  simp only [List.all_map, List.all_eq_true]
  intro x _
  rfl
theorem all_Taintd (l : List Taint) : (l.map Taint.d).all (fun x => x.cells.length == 3) = true := by
  simp only [List.all_map, List.all_eq_true]
  intro x _
  rfl
theorem all_Beard (l : List Bear) : (l.map Bear.d).all (fun x => x.cells.length == 4) = true := by
  simp only [List.all_map, List.all_eq_true]
  intro x _
  rfl
theorem all_Reqd (l : List Req) : (l.map Req.d).all (fun x => x.cells.length == 3) = true := by
  simp only [List.all_map, List.all_eq_true]
  intro x _
  rfl
theorem all_Preferd (l : List Prefer) : (l.map Prefer.d).all (fun x => x.cells.length == 2) = true := by
  simp only [List.all_map, List.all_eq_true]
  intro x _
  rfl
theorem all_Termd (l : List Term) : (l.map Term.d).all (fun x => x.cells.length == 2) = true := by
  simp only [List.all_map, List.all_eq_true]
  intro x _
  rfl
theorem all_Spreadd (l : List Spread) : (l.map Spread.d).all (fun x => x.cells.length == 4) = true := by
  simp only [List.all_map, List.all_eq_true]
  intro x _
  rfl
theorem all_Podd (l : List Pod) : (l.map Pod.d).all (fun x => x.cells.length == 16) = true := by
  simp only [List.all_map, List.all_eq_true]
  intro x _
  rfl
theorem all_Noded (l : List Node) : (l.map Node.d).all (fun x => x.cells.length == 9) = true := by
  simp only [List.all_map, List.all_eq_true]
  intro x _
  rfl
set_option maxHeartbeats 1000000 in
theorem sameTexts_loop {b : Code} (hb : b = bodyAt Try.f34 4) (l : List Str) (hl : l.length ≤ 1073741824) : ∀ (k i : Nat), i + k = l.length →
    evLoop E34 0 b [(0, .d (.sl (l.map strD))), (1, .d (.sl (l.map strD))), (5, .d (.int .i64 ((i : Int))))] [] = some ([(0, .d (.sl (l.map strD))), (1, .d (.sl (l.map strD))), (5, .d (.int .i64 (l.length))), (14, .d (.bool false))], [], .exit 0) := by
  simp only [bodyAt, bodyOf, loop_seq, loop_cond, loop_block, loop_loop, loop_region, loop_skip, loop_ret, loop_exit, orE_some, orE_none, Code.first, Option.getD_some, Nat.reduceEqDiff, ↓reduceIte, Try.f34] at hb
  subst hb
  intro k
  induction k with
  | zero =>
    intro i hk
    have hi : (i : Int) = (l.length : Int) := by omega
    rw [c_round]
    simp only [u34, Try.f34, hi, Int.lt_irrefl, sm, tys, Nat.reduceAdd, Nat.reduceSub, Nat.reduceEqDiff, Nat.reduceLeDiff, Nat.reduceLT, Nat.reduceMul, Nat.reduceBEq, ↓reduceIte, reduceCtorEq, Int.reduceLT, Int.reduceLE, Int.reduceGT, Int.reduceGE, Int.reduceBEq, Int.reduceBNe, Int.reduceEq, Int.reduceNe, Int.reduceAdd, Int.reduceSub, Int.reduceMul, Int.reduceNeg, Int.reduceToNat]
  | succ k ih =>
    intro i hk
    have hi : (i : Int) < (l.length : Int) := by omega
    have h0 : 0 ≤ (i : Int) := by omega
    have hlt : i < l.length := by omega
    have hci : l[i]? = some l[i] := by simp [hlt]
    have hmem : l[i] ∈ l := List.getElem_mem hlt
    generalize l[i] = c at hci hmem
    have hw : IntKind.i64.wrap ((i : Int) + 1) = ((i + 1 : Nat) : Int) := by rw [wrap_i64 (by omega) (by omega)]; omega
    rw [← ih (i + 1) (by omega), c_round]
    simp only [u34, Try.f34, hi, h0, hci, hw, strD, sm, tys, Nat.reduceAdd, Nat.reduceSub, Nat.reduceEqDiff, Nat.reduceLeDiff, Nat.reduceLT, Nat.reduceMul, Nat.reduceBEq, ↓reduceIte, reduceCtorEq, Int.reduceLT, Int.reduceLE, Int.reduceGT, Int.reduceGE, Int.reduceBEq, Int.reduceBNe, Int.reduceEq, Int.reduceNe, Int.reduceAdd, Int.reduceSub, Int.reduceMul, Int.reduceNeg, Int.reduceToNat]
theorem sameTexts (l : List Str) (hl : l.length ≤ 1073741824) : v34 [.d (.sl (l.map strD)), .d (.sl (l.map strD))] [] = some (.d (.bool true), []) := by
  have hloop := sameTexts_loop (b := bodyAt Try.f34 4) rfl l hl l.length 0 (by omega)
  simp only [bodyAt, bodyOf, loop_seq, loop_cond, loop_block, loop_loop, loop_region, loop_skip, loop_ret, loop_exit, orE_some, orE_none, Code.first, Option.getD_some, Nat.reduceEqDiff, ↓reduceIte, Try.f34] at hloop
  simp only [Int.cast_ofNat_Int] at hloop
  simp only [u34, Try.f34, hloop, sm, tys, Nat.reduceAdd, Nat.reduceSub, Nat.reduceEqDiff, Nat.reduceLeDiff, Nat.reduceLT, Nat.reduceMul, Nat.reduceBEq, ↓reduceIte, reduceCtorEq, Int.reduceLT, Int.reduceLE, Int.reduceGT, Int.reduceGE, Int.reduceBEq, Int.reduceBNe, Int.reduceEq, Int.reduceNe, Int.reduceAdd, Int.reduceSub, Int.reduceMul, Int.reduceNeg, Int.reduceToNat]
set_option maxHeartbeats 1000000 in
theorem sameInts_loop {b : Code} (hb : b = bodyAt Try.f35 4) (l : List Int) (hl : l.length ≤ 1073741824) : ∀ (k i : Nat), i + k = l.length →
    evLoop E35 0 b [(0, .d (.sl (l.map intD))), (1, .d (.sl (l.map intD))), (5, .d (.int .i64 ((i : Int))))] [] = some ([(0, .d (.sl (l.map intD))), (1, .d (.sl (l.map intD))), (5, .d (.int .i64 (l.length))), (14, .d (.bool false))], [], .exit 0) := by
  simp only [bodyAt, bodyOf, loop_seq, loop_cond, loop_block, loop_loop, loop_region, loop_skip, loop_ret, loop_exit, orE_some, orE_none, Code.first, Option.getD_some, Nat.reduceEqDiff, ↓reduceIte, Try.f35] at hb
  subst hb
  intro k
  induction k with
  | zero =>
    intro i hk
    have hi : (i : Int) = (l.length : Int) := by omega
    rw [c_round]
    simp only [u35, Try.f35, hi, Int.lt_irrefl, sm, tys, Nat.reduceAdd, Nat.reduceSub, Nat.reduceEqDiff, Nat.reduceLeDiff, Nat.reduceLT, Nat.reduceMul, Nat.reduceBEq, ↓reduceIte, reduceCtorEq, Int.reduceLT, Int.reduceLE, Int.reduceGT, Int.reduceGE, Int.reduceBEq, Int.reduceBNe, Int.reduceEq, Int.reduceNe, Int.reduceAdd, Int.reduceSub, Int.reduceMul, Int.reduceNeg, Int.reduceToNat]
  | succ k ih =>
    intro i hk
    have hi : (i : Int) < (l.length : Int) := by omega
    have h0 : 0 ≤ (i : Int) := by omega
    have hlt : i < l.length := by omega
    have hci : l[i]? = some l[i] := by simp [hlt]
    have hmem : l[i] ∈ l := List.getElem_mem hlt
    generalize l[i] = c at hci hmem
    have hw : IntKind.i64.wrap ((i : Int) + 1) = ((i + 1 : Nat) : Int) := by rw [wrap_i64 (by omega) (by omega)]; omega
    rw [← ih (i + 1) (by omega), c_round]
    simp only [u35, Try.f35, hi, h0, hci, hw, intD, sm, tys, Nat.reduceAdd, Nat.reduceSub, Nat.reduceEqDiff, Nat.reduceLeDiff, Nat.reduceLT, Nat.reduceMul, Nat.reduceBEq, ↓reduceIte, reduceCtorEq, Int.reduceLT, Int.reduceLE, Int.reduceGT, Int.reduceGE, Int.reduceBEq, Int.reduceBNe, Int.reduceEq, Int.reduceNe, Int.reduceAdd, Int.reduceSub, Int.reduceMul, Int.reduceNeg, Int.reduceToNat]
theorem sameInts (l : List Int) (hl : l.length ≤ 1073741824) : v35 [.d (.sl (l.map intD)), .d (.sl (l.map intD))] [] = some (.d (.bool true), []) := by
  have hloop := sameInts_loop (b := bodyAt Try.f35 4) rfl l hl l.length 0 (by omega)
  simp only [bodyAt, bodyOf, loop_seq, loop_cond, loop_block, loop_loop, loop_region, loop_skip, loop_ret, loop_exit, orE_some, orE_none, Code.first, Option.getD_some, Nat.reduceEqDiff, ↓reduceIte, Try.f35] at hloop
  simp only [Int.cast_ofNat_Int] at hloop
  simp only [u35, Try.f35, hloop, sm, tys, Nat.reduceAdd, Nat.reduceSub, Nat.reduceEqDiff, Nat.reduceLeDiff, Nat.reduceLT, Nat.reduceMul, Nat.reduceBEq, ↓reduceIte, reduceCtorEq, Int.reduceLT, Int.reduceLE, Int.reduceGT, Int.reduceGE, Int.reduceBEq, Int.reduceBNe, Int.reduceEq, Int.reduceNe, Int.reduceAdd, Int.reduceSub, Int.reduceMul, Int.reduceNeg, Int.reduceToNat]
set_option maxHeartbeats 1000000 in
theorem sameLabels_loop {b : Code} (hb : b = bodyAt Try.f42 4) (l : List Label) (hl : l.length ≤ 1073741824) : ∀ (k i : Nat), i + k = l.length →
    evLoop E42 0 b [(0, .d (.sl (l.map Label.d))), (1, .d (.sl (l.map Label.d))), (5, .d (.int .i64 ((i : Int))))] [] = some ([(0, .d (.sl (l.map Label.d))), (1, .d (.sl (l.map Label.d))), (5, .d (.int .i64 (l.length))), (14, .d (.bool false))], [], .exit 0) := by
  simp only [bodyAt, bodyOf, loop_seq, loop_cond, loop_block, loop_loop, loop_region, loop_skip, loop_ret, loop_exit, orE_some, orE_none, Code.first, Option.getD_some, Nat.reduceEqDiff, ↓reduceIte, Try.f42] at hb
  subst hb
  intro k
  induction k with
  | zero =>
    intro i hk
    have hi : (i : Int) = (l.length : Int) := by omega
    rw [c_round]
    simp only [u42, Try.f42, hi, Int.lt_irrefl, sm, tys, Nat.reduceAdd, Nat.reduceSub, Nat.reduceEqDiff, Nat.reduceLeDiff, Nat.reduceLT, Nat.reduceMul, Nat.reduceBEq, ↓reduceIte, reduceCtorEq, Int.reduceLT, Int.reduceLE, Int.reduceGT, Int.reduceGE, Int.reduceBEq, Int.reduceBNe, Int.reduceEq, Int.reduceNe, Int.reduceAdd, Int.reduceSub, Int.reduceMul, Int.reduceNeg, Int.reduceToNat]
  | succ k ih =>
    intro i hk
    have hi : (i : Int) < (l.length : Int) := by omega
    have h0 : 0 ≤ (i : Int) := by omega
    have hlt : i < l.length := by omega
    have hci : l[i]? = some l[i] := by simp [hlt]
    have hmem : l[i] ∈ l := List.getElem_mem hlt
    generalize l[i] = c at hci hmem
    have hw : IntKind.i64.wrap ((i : Int) + 1) = ((i + 1 : Nat) : Int) := by rw [wrap_i64 (by omega) (by omega)]; omega
    rw [← ih (i + 1) (by omega), c_round]
    simp only [u42, Try.f42, hi, h0, hci, hw, Label.d, sm, tys, Nat.reduceAdd, Nat.reduceSub, Nat.reduceEqDiff, Nat.reduceLeDiff, Nat.reduceLT, Nat.reduceMul, Nat.reduceBEq, ↓reduceIte, reduceCtorEq, Int.reduceLT, Int.reduceLE, Int.reduceGT, Int.reduceGE, Int.reduceBEq, Int.reduceBNe, Int.reduceEq, Int.reduceNe, Int.reduceAdd, Int.reduceSub, Int.reduceMul, Int.reduceNeg, Int.reduceToNat]
theorem sameLabels (l : List Label) (hl : l.length ≤ 1073741824) : v42 [.d (.sl (l.map Label.d)), .d (.sl (l.map Label.d))] [] = some (.d (.bool true), []) := by
  have hloop := sameLabels_loop (b := bodyAt Try.f42 4) rfl l hl l.length 0 (by omega)
  simp only [bodyAt, bodyOf, loop_seq, loop_cond, loop_block, loop_loop, loop_region, loop_skip, loop_ret, loop_exit, orE_some, orE_none, Code.first, Option.getD_some, Nat.reduceEqDiff, ↓reduceIte, Try.f42] at hloop
  simp only [Int.cast_ofNat_Int] at hloop
  simp only [u42, Try.f42, hloop, sm, tys, Nat.reduceAdd, Nat.reduceSub, Nat.reduceEqDiff, Nat.reduceLeDiff, Nat.reduceLT, Nat.reduceMul, Nat.reduceBEq, ↓reduceIte, reduceCtorEq, Int.reduceLT, Int.reduceLE, Int.reduceGT, Int.reduceGE, Int.reduceBEq, Int.reduceBNe, Int.reduceEq, Int.reduceNe, Int.reduceAdd, Int.reduceSub, Int.reduceMul, Int.reduceNeg, Int.reduceToNat]
set_option maxHeartbeats 1000000 in
theorem sameReqs_loop {b : Code} (hb : b = bodyAt Try.f43 4) (l : List Req) (hl : l.length ≤ 1073741824) (h : ∀ r ∈ l, r.ok) : ∀ (k i : Nat), i + k = l.length →
    evLoop E43 0 b [(0, .d (.sl (l.map Req.d))), (1, .d (.sl (l.map Req.d))), (5, .d (.int .i64 ((i : Int))))] [] = some ([(0, .d (.sl (l.map Req.d))), (1, .d (.sl (l.map Req.d))), (5, .d (.int .i64 (l.length))), (14, .d (.bool false))], [], .exit 0) := by
  simp only [bodyAt, bodyOf, loop_seq, loop_cond, loop_block, loop_loop, loop_region, loop_skip, loop_ret, loop_exit, orE_some, orE_none, Code.first, Option.getD_some, Nat.reduceEqDiff, ↓reduceIte, Try.f43] at hb
  subst hb
  intro k
  induction k with
  | zero =>
    intro i hk
    have hi : (i : Int) = (l.length : Int) := by omega
    rw [c_round]
    simp only [u43, Try.f43, hi, Int.lt_irrefl, sm, tys, Nat.reduceAdd, Nat.reduceSub, Nat.reduceEqDiff, Nat.reduceLeDiff, Nat.reduceLT, Nat.reduceMul, Nat.reduceBEq, ↓reduceIte, reduceCtorEq, Int.reduceLT, Int.reduceLE, Int.reduceGT, Int.reduceGE, Int.reduceBEq, Int.reduceBNe, Int.reduceEq, Int.reduceNe, Int.reduceAdd, Int.reduceSub, Int.reduceMul, Int.reduceNeg, Int.reduceToNat]
  | succ k ih =>
    intro i hk
    have hi : (i : Int) < (l.length : Int) := by omega
    have h0 : 0 ≤ (i : Int) := by omega
    have hlt : i < l.length := by omega
    have hci : l[i]? = some l[i] := by simp [hlt]
    have hmem : l[i] ∈ l := List.getElem_mem hlt
    generalize l[i] = c at hci hmem
    have hs := sameTexts c.vals (h c hmem)
    have hw : IntKind.i64.wrap ((i : Int) + 1) = ((i + 1 : Nat) : Int) := by rw [wrap_i64 (by omega) (by omega)]; omega
    rw [← ih (i + 1) (by omega), c_round]
    simp only [u43, Try.f43, hi, h0, hci, hw, Req.d, hs, sm, tys, Nat.reduceAdd, Nat.reduceSub, Nat.reduceEqDiff, Nat.reduceLeDiff, Nat.reduceLT, Nat.reduceMul, Nat.reduceBEq, ↓reduceIte, reduceCtorEq, Int.reduceLT, Int.reduceLE, Int.reduceGT, Int.reduceGE, Int.reduceBEq, Int.reduceBNe, Int.reduceEq, Int.reduceNe, Int.reduceAdd, Int.reduceSub, Int.reduceMul, Int.reduceNeg, Int.reduceToNat]
theorem sameReqs (l : List Req) (hl : l.length ≤ 1073741824) (h : ∀ r ∈ l, r.ok) : v43 [.d (.sl (l.map Req.d)), .d (.sl (l.map Req.d))] [] = some (.d (.bool true), []) := by
  have hloop := sameReqs_loop (b := bodyAt Try.f43 4) rfl l hl h l.length 0 (by omega)
  simp only [bodyAt, bodyOf, loop_seq, loop_cond, loop_block, loop_loop, loop_region, loop_skip, loop_ret, loop_exit, orE_some, orE_none, Code.first, Option.getD_some, Nat.reduceEqDiff, ↓reduceIte, Try.f43] at hloop
  simp only [Int.cast_ofNat_Int] at hloop
  simp only [u43, Try.f43, hloop, sm, tys, Nat.reduceAdd, Nat.reduceSub, Nat.reduceEqDiff, Nat.reduceLeDiff, Nat.reduceLT, Nat.reduceMul, Nat.reduceBEq, ↓reduceIte, reduceCtorEq, Int.reduceLT, Int.reduceLE, Int.reduceGT, Int.reduceGE, Int.reduceBEq, Int.reduceBNe, Int.reduceEq, Int.reduceNe, Int.reduceAdd, Int.reduceSub, Int.reduceMul, Int.reduceNeg, Int.reduceToNat]
set_option maxHeartbeats 1000000 in
theorem sameTerms_loop {b : Code} (hb : b = bodyAt Try.f44 4) (l : List Term) (hl : l.length ≤ 1073741824) (h : ∀ r ∈ l, Reqs.ok r.reqs) : ∀ (k i : Nat), i + k = l.length →
    evLoop E44 0 b [(0, .d (.sl (l.map Term.d))), (1, .d (.sl (l.map Term.d))), (5, .d (.int .i64 ((i : Int))))] [] = some ([(0, .d (.sl (l.map Term.d))), (1, .d (.sl (l.map Term.d))), (5, .d (.int .i64 (l.length))), (14, .d (.bool false))], [], .exit 0) := by
  simp only [bodyAt, bodyOf, loop_seq, loop_cond, loop_block, loop_loop, loop_region, loop_skip, loop_ret, loop_exit, orE_some, orE_none, Code.first, Option.getD_some, Nat.reduceEqDiff, ↓reduceIte, Try.f44] at hb
  subst hb
  intro k
  induction k with
  | zero =>
    intro i hk
    have hi : (i : Int) = (l.length : Int) := by omega
    rw [c_round]
    simp only [u44, Try.f44, hi, Int.lt_irrefl, sm, tys, Nat.reduceAdd, Nat.reduceSub, Nat.reduceEqDiff, Nat.reduceLeDiff, Nat.reduceLT, Nat.reduceMul, Nat.reduceBEq, ↓reduceIte, reduceCtorEq, Int.reduceLT, Int.reduceLE, Int.reduceGT, Int.reduceGE, Int.reduceBEq, Int.reduceBNe, Int.reduceEq, Int.reduceNe, Int.reduceAdd, Int.reduceSub, Int.reduceMul, Int.reduceNeg, Int.reduceToNat]
  | succ k ih =>
    intro i hk
    have hi : (i : Int) < (l.length : Int) := by omega
    have h0 : 0 ≤ (i : Int) := by omega
    have hlt : i < l.length := by omega
    have hci : l[i]? = some l[i] := by simp [hlt]
    have hmem : l[i] ∈ l := List.getElem_mem hlt
    generalize l[i] = c at hci hmem
    have hs := sameReqs c.reqs (h c hmem).1 (h c hmem).2
    have hw : IntKind.i64.wrap ((i : Int) + 1) = ((i + 1 : Nat) : Int) := by rw [wrap_i64 (by omega) (by omega)]; omega
    rw [← ih (i + 1) (by omega), c_round]
    simp only [u44, Try.f44, hi, h0, hci, hw, Term.d, hs, sm, tys, Nat.reduceAdd, Nat.reduceSub, Nat.reduceEqDiff, Nat.reduceLeDiff, Nat.reduceLT, Nat.reduceMul, Nat.reduceBEq, ↓reduceIte, reduceCtorEq, Int.reduceLT, Int.reduceLE, Int.reduceGT, Int.reduceGE, Int.reduceBEq, Int.reduceBNe, Int.reduceEq, Int.reduceNe, Int.reduceAdd, Int.reduceSub, Int.reduceMul, Int.reduceNeg, Int.reduceToNat]
theorem sameTerms (l : List Term) (hl : l.length ≤ 1073741824) (h : ∀ r ∈ l, Reqs.ok r.reqs) : v44 [.d (.sl (l.map Term.d)), .d (.sl (l.map Term.d))] [] = some (.d (.bool true), []) := by
  have hloop := sameTerms_loop (b := bodyAt Try.f44 4) rfl l hl h l.length 0 (by omega)
  simp only [bodyAt, bodyOf, loop_seq, loop_cond, loop_block, loop_loop, loop_region, loop_skip, loop_ret, loop_exit, orE_some, orE_none, Code.first, Option.getD_some, Nat.reduceEqDiff, ↓reduceIte, Try.f44] at hloop
  simp only [Int.cast_ofNat_Int] at hloop
  simp only [u44, Try.f44, hloop, sm, tys, Nat.reduceAdd, Nat.reduceSub, Nat.reduceEqDiff, Nat.reduceLeDiff, Nat.reduceLT, Nat.reduceMul, Nat.reduceBEq, ↓reduceIte, reduceCtorEq, Int.reduceLT, Int.reduceLE, Int.reduceGT, Int.reduceGE, Int.reduceBEq, Int.reduceBNe, Int.reduceEq, Int.reduceNe, Int.reduceAdd, Int.reduceSub, Int.reduceMul, Int.reduceNeg, Int.reduceToNat]
end Go.Wm.Try1
namespace Go.Wm.Try1
open Go Go.Wm Go.Proofs
theorem texts_eq (l : List Str) (hl : Small l) : v51 [.d (.sl (l.map strD))] [] = some (.d (.sl (l.map strD)), []) := by
  have h1 := all_strD l
  have h2 : l.length ≤ 2147483648 := by unfold Small at hl; omega
  simp only [u51, Try.f51, h1, h2, sm, tys, Nat.reduceAdd, Nat.reduceSub, Nat.reduceEqDiff, Nat.reduceLeDiff, Nat.reduceLT, Nat.reduceMul, Nat.reduceBEq, ↓reduceIte, reduceCtorEq, Int.reduceLT, Int.reduceLE, Int.reduceGT, Int.reduceGE, Int.reduceBEq, Int.reduceBNe, Int.reduceEq, Int.reduceNe, Int.reduceAdd, Int.reduceSub, Int.reduceMul, Int.reduceNeg, Int.reduceToNat]
theorem ints_eq (l : List Int) (hl : Small l) : v49 [.d (.sl (l.map intD))] [] = some (.d (.sl (l.map intD)), []) := by
  have h1 := all_intD l
  have h2 : l.length ≤ 2147483648 := by unfold Small at hl; omega
  simp only [u49, Try.f49, h1, h2, sm, tys, Nat.reduceAdd, Nat.reduceSub, Nat.reduceEqDiff, Nat.reduceLeDiff, Nat.reduceLT, Nat.reduceMul, Nat.reduceBEq, ↓reduceIte, reduceCtorEq, Int.reduceLT, Int.reduceLE, Int.reduceGT, Int.reduceGE, Int.reduceBEq, Int.reduceBNe, Int.reduceEq, Int.reduceNe, Int.reduceAdd, Int.reduceSub, Int.reduceMul, Int.reduceNeg, Int.reduceToNat]
theorem labels_eq (l : List Label) (hl : Small l) : v28 [.d (.sl (l.map Label.d))] [] = some (.d (.sl (l.map Label.d)), []) := by
  have h1 := all_Labeld l
  have h2 : l.length ≤ 2147483648 := by unfold Small at hl; omega
  simp only [u28, Try.f28, h1, h2, sm, tys, Nat.reduceAdd, Nat.reduceSub, Nat.reduceEqDiff, Nat.reduceLeDiff, Nat.reduceLT, Nat.reduceMul, Nat.reduceBEq, ↓reduceIte, reduceCtorEq, Int.reduceLT, Int.reduceLE, Int.reduceGT, Int.reduceGE, Int.reduceBEq, Int.reduceBNe, Int.reduceEq, Int.reduceNe, Int.reduceAdd, Int.reduceSub, Int.reduceMul, Int.reduceNeg, Int.reduceToNat]
set_option maxHeartbeats 1000000 in
theorem reqs_eq_loop {b : Code} (hb : b = bodyAt Try.f48 3) (l : List Req) (hl : Small l) (h : ∀ r ∈ l, r.ok) : ∀ (k i : Nat) (out : List Req), i + k = l.length → out.length = i →
    evLoop E48 0 b [(0, .d (.sl (l.map Req.d))), (3, .own 0 (out.map Req.d)), (4, .d (.int .i64 ((i : Int))))] [.tok 101 out.length 3] = some ([(0, .d (.sl (l.map Req.d))), (3, .own 0 ((out ++ l.drop i).map Req.d)), (4, .d (.int .i64 (l.length))), (10, .d (.bool false))], [.tok 101 (out ++ l.drop i).length 3], .exit 0) := by
  simp only [bodyAt, bodyOf, loop_seq, loop_cond, loop_block, loop_loop, loop_region, loop_skip, loop_ret, loop_exit, orE_some, orE_none, Code.first, Option.getD_some, Nat.reduceEqDiff, ↓reduceIte, Try.f48] at hb
  subst hb
  unfold Small at hl
  intro k
  induction k with
  | zero =>
    intro i out hk ho
    have hi : (i : Int) = (l.length : Int) := by omega
    have hd : l.drop i = [] := by rw [List.drop_eq_nil_iff]; omega
    rw [c_round, hd, List.append_nil]
    simp only [u48, Try.f48, hi, Int.lt_irrefl, sm, tys, Nat.reduceAdd, Nat.reduceSub, Nat.reduceEqDiff, Nat.reduceLeDiff, Nat.reduceLT, Nat.reduceMul, Nat.reduceBEq, ↓reduceIte, reduceCtorEq, Int.reduceLT, Int.reduceLE, Int.reduceGT, Int.reduceGE, Int.reduceBEq, Int.reduceBNe, Int.reduceEq, Int.reduceNe, Int.reduceAdd, Int.reduceSub, Int.reduceMul, Int.reduceNeg, Int.reduceToNat]
  | succ k ih =>
    intro i out hk ho
    have hi : (i : Int) < (l.length : Int) := by omega
    have h0 : 0 ≤ (i : Int) := by omega
    have hlt : i < l.length := by omega
    have hci : l[i]? = some l[i] := by simp [hlt]
    have hmem : l[i] ∈ l := List.getElem_mem hlt
    have hd : l.drop i = l[i] :: l.drop (i + 1) := List.drop_eq_getElem_cons hlt
    generalize l[i] = c at hci hmem hd
    have ht := texts_eq c.vals (h c hmem)
    have hw : IntKind.i64.wrap ((i : Int) + 1) = ((i + 1 : Nat) : Int) := by rw [wrap_i64 (by omega) (by omega)]; omega
    have hol : out.length + 1 ≤ 2147483648 := by omega
    have := ih (i + 1) (out ++ [c]) (by omega) (by simp; omega)
    rw [List.append_assoc, List.singleton_append, List.map_append (l₂ := [_]), List.map_cons, List.map_nil, List.length_append (bs := [_]), List.length_cons, List.length_nil, Nat.zero_add] at this
    rw [hd, ← this, c_round]
    simp only [u48, Try.f48, hi, h0, hci, hw, hol, Req.d, ht, sm, tys, Nat.reduceAdd, Nat.reduceSub, Nat.reduceEqDiff, Nat.reduceLeDiff, Nat.reduceLT, Nat.reduceMul, Nat.reduceBEq, ↓reduceIte, reduceCtorEq, Int.reduceLT, Int.reduceLE, Int.reduceGT, Int.reduceGE, Int.reduceBEq, Int.reduceBNe, Int.reduceEq, Int.reduceNe, Int.reduceAdd, Int.reduceSub, Int.reduceMul, Int.reduceNeg, Int.reduceToNat]
theorem reqs_eq (l : List Req) (hl : Small l) (h : ∀ r ∈ l, r.ok) : v48 [.d (.sl (l.map Req.d))] [] = some (.d (.sl (l.map Req.d)), []) := by
  have hloop := reqs_eq_loop (b := bodyAt Try.f48 3) rfl l hl h l.length 0 [] (by omega) rfl
  simp only [bodyAt, bodyOf, loop_seq, loop_cond, loop_block, loop_loop, loop_region, loop_skip, loop_ret, loop_exit, orE_some, orE_none, Code.first, Option.getD_some, Nat.reduceEqDiff, ↓reduceIte, Try.f48] at hloop
  simp only [Int.cast_ofNat_Int, List.map_nil, List.length_nil, List.drop_zero, List.nil_append] at hloop
  simp only [u48, Try.f48, hloop, sm, tys, Nat.reduceAdd, Nat.reduceSub, Nat.reduceEqDiff, Nat.reduceLeDiff, Nat.reduceLT, Nat.reduceMul, Nat.reduceBEq, ↓reduceIte, reduceCtorEq, Int.reduceLT, Int.reduceLE, Int.reduceGT, Int.reduceGE, Int.reduceBEq, Int.reduceBNe, Int.reduceEq, Int.reduceNe, Int.reduceAdd, Int.reduceSub, Int.reduceMul, Int.reduceNeg, Int.reduceToNat]
set_option maxHeartbeats 1000000 in
theorem terms_eq_loop {b : Code} (hb : b = bodyAt Try.f50 3) (l : List Term) (hl : Small l) (h : ∀ r ∈ l, Reqs.ok r.reqs) : ∀ (k i : Nat) (out : List Term), i + k = l.length → out.length = i →
    evLoop E50 0 b [(0, .d (.sl (l.map Term.d))), (3, .own 0 (out.map Term.d)), (4, .d (.int .i64 ((i : Int))))] [.tok 103 out.length 2] = some ([(0, .d (.sl (l.map Term.d))), (3, .own 0 ((out ++ l.drop i).map Term.d)), (4, .d (.int .i64 (l.length))), (9, .d (.bool false))], [.tok 103 (out ++ l.drop i).length 2], .exit 0) := by
  simp only [bodyAt, bodyOf, loop_seq, loop_cond, loop_block, loop_loop, loop_region, loop_skip, loop_ret, loop_exit, orE_some, orE_none, Code.first, Option.getD_some, Nat.reduceEqDiff, ↓reduceIte, Try.f50] at hb
  subst hb
  unfold Small at hl
  intro k
  induction k with
  | zero =>
    intro i out hk ho
    have hi : (i : Int) = (l.length : Int) := by omega
    have hd : l.drop i = [] := by rw [List.drop_eq_nil_iff]; omega
    rw [c_round, hd, List.append_nil]
    simp only [u50, Try.f50, hi, Int.lt_irrefl, sm, tys, Nat.reduceAdd, Nat.reduceSub, Nat.reduceEqDiff, Nat.reduceLeDiff, Nat.reduceLT, Nat.reduceMul, Nat.reduceBEq, ↓reduceIte, reduceCtorEq, Int.reduceLT, Int.reduceLE, Int.reduceGT, Int.reduceGE, Int.reduceBEq, Int.reduceBNe, Int.reduceEq, Int.reduceNe, Int.reduceAdd, Int.reduceSub, Int.reduceMul, Int.reduceNeg, Int.reduceToNat]
  | succ k ih =>
    intro i out hk ho
    have hi : (i : Int) < (l.length : Int) := by omega
    have h0 : 0 ≤ (i : Int) := by omega
    have hlt : i < l.length := by omega
    have hci : l[i]? = some l[i] := by simp [hlt]
    have hmem : l[i] ∈ l := List.getElem_mem hlt
    have hd : l.drop i = l[i] :: l.drop (i + 1) := List.drop_eq_getElem_cons hlt
    generalize l[i] = c at hci hmem hd
    have ht := reqs_eq c.reqs (h c hmem).1 (h c hmem).2
    have hw : IntKind.i64.wrap ((i : Int) + 1) = ((i + 1 : Nat) : Int) := by rw [wrap_i64 (by omega) (by omega)]; omega
    have hol : out.length + 1 ≤ 2147483648 := by omega
    have := ih (i + 1) (out ++ [c]) (by omega) (by simp; omega)
    rw [List.append_assoc, List.singleton_append, List.map_append (l₂ := [_]), List.map_cons, List.map_nil, List.length_append (bs := [_]), List.length_cons, List.length_nil, Nat.zero_add] at this
    rw [hd, ← this, c_round]
    simp only [u50, Try.f50, hi, h0, hci, hw, hol, Term.d, ht, sm, tys, Nat.reduceAdd, Nat.reduceSub, Nat.reduceEqDiff, Nat.reduceLeDiff, Nat.reduceLT, Nat.reduceMul, Nat.reduceBEq, ↓reduceIte, reduceCtorEq, Int.reduceLT, Int.reduceLE, Int.reduceGT, Int.reduceGE, Int.reduceBEq, Int.reduceBNe, Int.reduceEq, Int.reduceNe, Int.reduceAdd, Int.reduceSub, Int.reduceMul, Int.reduceNeg, Int.reduceToNat]
theorem terms_eq (l : List Term) (hl : Small l) (h : ∀ r ∈ l, Reqs.ok r.reqs) : v50 [.d (.sl (l.map Term.d))] [] = some (.d (.sl (l.map Term.d)), []) := by
  have hloop := terms_eq_loop (b := bodyAt Try.f50 3) rfl l hl h l.length 0 [] (by omega) rfl
  simp only [bodyAt, bodyOf, loop_seq, loop_cond, loop_block, loop_loop, loop_region, loop_skip, loop_ret, loop_exit, orE_some, orE_none, Code.first, Option.getD_some, Nat.reduceEqDiff, ↓reduceIte, Try.f50] at hloop
  simp only [Int.cast_ofNat_Int, List.map_nil, List.length_nil, List.drop_zero, List.nil_append] at hloop
  simp only [u50, Try.f50, hloop, sm, tys, Nat.reduceAdd, Nat.reduceSub, Nat.reduceEqDiff, Nat.reduceLeDiff, Nat.reduceLT, Nat.reduceMul, Nat.reduceBEq, ↓reduceIte, reduceCtorEq, Int.reduceLT, Int.reduceLE, Int.reduceGT, Int.reduceGE, Int.reduceBEq, Int.reduceBNe, Int.reduceEq, Int.reduceNe, Int.reduceAdd, Int.reduceSub, Int.reduceMul, Int.reduceNeg, Int.reduceToNat]
end Go.Wm.Try1
namespace Go.Wm.Try1
open Go Go.Wm Go.Proofs
set_option maxHeartbeats 4000000 in
theorem pod_loop7 {b : Code} (hb : b = bodyAt Try.f24 7) (p : Pod) (hp : p.ok) : ∀ (k i : Nat) (out : List Prefer), i + k = p.prefers.length → out.length = i →
    evLoop E24 0 b [(1, .ptr 0 0), (2, .ptr 1 0), (3, .ptr 11 0), (4, .d (.int .i64 ((i : Int))))] [.box [.d (.str p.name), .d (.int .i64 (p.prio)), .d (.sl (p.labels.map Label.d)), .d (.int .i64 (p.want.cpu)), .d (.int .i64 (p.want.mem)), .d (.int .i64 (p.want.disk)), .d (.sl (p.bears.map Bear.d)), .d (.sl (p.asks.map Req.d)), .d (.sl (p.prefers.map Prefer.d)), .d (.sl (p.ports.map intD)), .d (.sl (p.near.map Term.d)), .d (.sl (p.apart.map Term.d)), .d (.sl (p.spreads.map Spread.d)), .d (.sl (p.claims.map strD)), .d (.str p.node), .d (.str p.hope)], .box [.d (.str []), .d (.int .i64 (0)), .sl 2 0 0, .d (.int .i64 (0)), .d (.int .i64 (0)), .d (.int .i64 (0)), .sl 3 0 0, .sl 4 0 0, .sl 5 0 0, .sl 6 0 0, .sl 7 0 0, .sl 8 0 0, .sl 9 0 0, .sl 10 0 0, .d (.str []), .d (.str [])], .row 99 2 [], .row 75 4 [], .row 101 3 [], .row 77 2 [], .row 3 1 [], .row 103 2 [], .row 103 2 [], .row 79 4 [], .row 9 1 [], .box [.d (.str p.name), .d (.int .i64 (p.prio)), .d (.sl (p.labels.map Label.d)), .d (.int .i64 (p.want.cpu)), .d (.int .i64 (p.want.mem)), .d (.int .i64 (p.want.disk)), .sl 12 0 p.bears.length, .d (.sl (p.asks.map Req.d)), .sl 13 0 (out).length, .d (.sl (p.ports.map intD)), .d (.sl (p.near.map Term.d)), .d (.sl (p.apart.map Term.d)), .d (.sl (p.spreads.map Spread.d)), .d (.sl (p.claims.map strD)), .d (.str p.node), .d (.str p.hope)], .row 75 4 (p.bears.map Bear.d), .row 77 2 ((out).map Prefer.d)] = some ([(1, .ptr 0 0), (2, .ptr 1 0), (3, .ptr 11 0), (4, .d (.int .i64 (p.prefers.length))), (27, .d (.bool false))], [.box [.d (.str p.name), .d (.int .i64 (p.prio)), .d (.sl (p.labels.map Label.d)), .d (.int .i64 (p.want.cpu)), .d (.int .i64 (p.want.mem)), .d (.int .i64 (p.want.disk)), .d (.sl (p.bears.map Bear.d)), .d (.sl (p.asks.map Req.d)), .d (.sl (p.prefers.map Prefer.d)), .d (.sl (p.ports.map intD)), .d (.sl (p.near.map Term.d)), .d (.sl (p.apart.map Term.d)), .d (.sl (p.spreads.map Spread.d)), .d (.sl (p.claims.map strD)), .d (.str p.node), .d (.str p.hope)], .box [.d (.str []), .d (.int .i64 (0)), .sl 2 0 0, .d (.int .i64 (0)), .d (.int .i64 (0)), .d (.int .i64 (0)), .sl 3 0 0, .sl 4 0 0, .sl 5 0 0, .sl 6 0 0, .sl 7 0 0, .sl 8 0 0, .sl 9 0 0, .sl 10 0 0, .d (.str []), .d (.str [])], .row 99 2 [], .row 75 4 [], .row 101 3 [], .row 77 2 [], .row 3 1 [], .row 103 2 [], .row 103 2 [], .row 79 4 [], .row 9 1 [], .box [.d (.str p.name), .d (.int .i64 (p.prio)), .d (.sl (p.labels.map Label.d)), .d (.int .i64 (p.want.cpu)), .d (.int .i64 (p.want.mem)), .d (.int .i64 (p.want.disk)), .sl 12 0 p.bears.length, .d (.sl (p.asks.map Req.d)), .sl 13 0 (out ++ p.prefers.drop i).length, .d (.sl (p.ports.map intD)), .d (.sl (p.near.map Term.d)), .d (.sl (p.apart.map Term.d)), .d (.sl (p.spreads.map Spread.d)), .d (.sl (p.claims.map strD)), .d (.str p.node), .d (.str p.hope)], .row 75 4 (p.bears.map Bear.d), .row 77 2 ((out ++ p.prefers.drop i).map Prefer.d)], .exit 0) := by
  simp only [bodyAt, bodyOf, loop_seq, loop_cond, loop_block, loop_loop, loop_region, loop_skip, loop_ret, loop_exit, orE_some, orE_none, Code.first, Option.getD_some, Nat.reduceEqDiff, ↓reduceIte, Try.f24] at hb
  subst hb
  obtain ⟨_, _, _, ⟨hl, hr⟩, _⟩ := hp
  unfold Small at hl
  intro k
  induction k with
  | zero =>
    intro i out hk ho
    have hi : (i : Int) = (p.prefers.length : Int) := by omega
    have hd : p.prefers.drop i = [] := by rw [List.drop_eq_nil_iff]; omega
    rw [c_round, hd, List.append_nil]
    simp only [u24, Try.f24, hi, Int.lt_irrefl, sm, tys, Nat.reduceAdd, Nat.reduceSub, Nat.reduceEqDiff, Nat.reduceLeDiff, Nat.reduceLT, Nat.reduceMul, Nat.reduceBEq, ↓reduceIte, reduceCtorEq, Int.reduceLT, Int.reduceLE, Int.reduceGT, Int.reduceGE, Int.reduceBEq, Int.reduceBNe, Int.reduceEq, Int.reduceNe, Int.reduceAdd, Int.reduceSub, Int.reduceMul, Int.reduceNeg, Int.reduceToNat]
  | succ k ih =>
    intro i out hk ho
    have hi : (i : Int) < (p.prefers.length : Int) := by omega
    have h0 : 0 ≤ (i : Int) := by omega
    have hlt : i < p.prefers.length := by omega
    have hci : p.prefers[i]? = some p.prefers[i] := by simp [hlt]
    have hmem : p.prefers[i] ∈ p.prefers := List.getElem_mem hlt
    have hd : p.prefers.drop i = p.prefers[i] :: p.prefers.drop (i + 1) := List.drop_eq_getElem_cons hlt
    generalize p.prefers[i] = c at hci hmem hd
    have hq := reqs_eq c.reqs (hr c hmem).1 (hr c hmem).2
    have hw : IntKind.i64.wrap ((i : Int) + 1) = ((i + 1 : Nat) : Int) := by rw [wrap_i64 (by omega) (by omega)]; omega
    have hol : out.length + 1 ≤ 2147483648 := by omega
    have := ih (i + 1) (out ++ [c]) (by omega) (by simp; omega)
    rw [List.append_assoc, List.singleton_append, List.map_append (l₂ := [_]), List.map_cons, List.map_nil, List.length_append (bs := [_]), List.length_cons, List.length_nil, Nat.zero_add] at this
    rw [hd, ← this, c_round]
    simp only [u24, Try.f24, hi, h0, hci, hw, hol, hq, Prefer.d, sm, tys, Nat.reduceAdd, Nat.reduceSub, Nat.reduceEqDiff, Nat.reduceLeDiff, Nat.reduceLT, Nat.reduceMul, Nat.reduceBEq, ↓reduceIte, reduceCtorEq, Int.reduceLT, Int.reduceLE, Int.reduceGT, Int.reduceGE, Int.reduceBEq, Int.reduceBNe, Int.reduceEq, Int.reduceNe, Int.reduceAdd, Int.reduceSub, Int.reduceMul, Int.reduceNeg, Int.reduceToNat]
set_option maxHeartbeats 4000000 in
theorem pod_loop14 {b : Code} (hb : b = bodyAt Try.f24 14) (p : Pod) (hp : p.ok) : ∀ (k i : Nat) (out : List Spread), i + k = p.spreads.length → out.length = i →
    evLoop E24 0 b [(1, .ptr 0 0), (2, .ptr 1 0), (3, .ptr 11 0), (5, .d (.int .i64 ((i : Int))))] [.box [.d (.str p.name), .d (.int .i64 (p.prio)), .d (.sl (p.labels.map Label.d)), .d (.int .i64 (p.want.cpu)), .d (.int .i64 (p.want.mem)), .d (.int .i64 (p.want.disk)), .d (.sl (p.bears.map Bear.d)), .d (.sl (p.asks.map Req.d)), .d (.sl (p.prefers.map Prefer.d)), .d (.sl (p.ports.map intD)), .d (.sl (p.near.map Term.d)), .d (.sl (p.apart.map Term.d)), .d (.sl (p.spreads.map Spread.d)), .d (.sl (p.claims.map strD)), .d (.str p.node), .d (.str p.hope)], .box [.d (.str []), .d (.int .i64 (0)), .sl 2 0 0, .d (.int .i64 (0)), .d (.int .i64 (0)), .d (.int .i64 (0)), .sl 3 0 0, .sl 4 0 0, .sl 5 0 0, .sl 6 0 0, .sl 7 0 0, .sl 8 0 0, .sl 9 0 0, .sl 10 0 0, .d (.str []), .d (.str [])], .row 99 2 [], .row 75 4 [], .row 101 3 [], .row 77 2 [], .row 3 1 [], .row 103 2 [], .row 103 2 [], .row 79 4 [], .row 9 1 [], .box [.d (.str p.name), .d (.int .i64 (p.prio)), .d (.sl (p.labels.map Label.d)), .d (.int .i64 (p.want.cpu)), .d (.int .i64 (p.want.mem)), .d (.int .i64 (p.want.disk)), .sl 12 0 p.bears.length, .d (.sl (p.asks.map Req.d)), .sl 13 0 p.prefers.length, .d (.sl (p.ports.map intD)), .d (.sl (p.near.map Term.d)), .d (.sl (p.apart.map Term.d)), .sl 14 0 (out).length, .d (.sl (p.claims.map strD)), .d (.str p.node), .d (.str p.hope)], .row 75 4 (p.bears.map Bear.d), .row 77 2 (p.prefers.map Prefer.d), .row 79 4 ((out).map Spread.d)] = some ([(1, .ptr 0 0), (2, .ptr 1 0), (3, .ptr 11 0), (5, .d (.int .i64 (p.spreads.length))), (67, .d (.bool false))], [.box [.d (.str p.name), .d (.int .i64 (p.prio)), .d (.sl (p.labels.map Label.d)), .d (.int .i64 (p.want.cpu)), .d (.int .i64 (p.want.mem)), .d (.int .i64 (p.want.disk)), .d (.sl (p.bears.map Bear.d)), .d (.sl (p.asks.map Req.d)), .d (.sl (p.prefers.map Prefer.d)), .d (.sl (p.ports.map intD)), .d (.sl (p.near.map Term.d)), .d (.sl (p.apart.map Term.d)), .d (.sl (p.spreads.map Spread.d)), .d (.sl (p.claims.map strD)), .d (.str p.node), .d (.str p.hope)], .box [.d (.str []), .d (.int .i64 (0)), .sl 2 0 0, .d (.int .i64 (0)), .d (.int .i64 (0)), .d (.int .i64 (0)), .sl 3 0 0, .sl 4 0 0, .sl 5 0 0, .sl 6 0 0, .sl 7 0 0, .sl 8 0 0, .sl 9 0 0, .sl 10 0 0, .d (.str []), .d (.str [])], .row 99 2 [], .row 75 4 [], .row 101 3 [], .row 77 2 [], .row 3 1 [], .row 103 2 [], .row 103 2 [], .row 79 4 [], .row 9 1 [], .box [.d (.str p.name), .d (.int .i64 (p.prio)), .d (.sl (p.labels.map Label.d)), .d (.int .i64 (p.want.cpu)), .d (.int .i64 (p.want.mem)), .d (.int .i64 (p.want.disk)), .sl 12 0 p.bears.length, .d (.sl (p.asks.map Req.d)), .sl 13 0 p.prefers.length, .d (.sl (p.ports.map intD)), .d (.sl (p.near.map Term.d)), .d (.sl (p.apart.map Term.d)), .sl 14 0 (out ++ p.spreads.drop i).length, .d (.sl (p.claims.map strD)), .d (.str p.node), .d (.str p.hope)], .row 75 4 (p.bears.map Bear.d), .row 77 2 (p.prefers.map Prefer.d), .row 79 4 ((out ++ p.spreads.drop i).map Spread.d)], .exit 2) := by
  simp only [bodyAt, bodyOf, loop_seq, loop_cond, loop_block, loop_loop, loop_region, loop_skip, loop_ret, loop_exit, orE_some, orE_none, Code.first, Option.getD_some, Nat.reduceEqDiff, ↓reduceIte, Try.f24] at hb
  subst hb
  obtain ⟨_, _, _, _, _, _, _, ⟨hl, hr⟩, _⟩ := hp
  unfold Small at hl
  intro k
  induction k with
  | zero =>
    intro i out hk ho
    have hi : (i : Int) = (p.spreads.length : Int) := by omega
    have hd : p.spreads.drop i = [] := by rw [List.drop_eq_nil_iff]; omega
    rw [c_round, hd, List.append_nil]
    simp only [u24, Try.f24, hi, Int.lt_irrefl, sm, tys, Nat.reduceAdd, Nat.reduceSub, Nat.reduceEqDiff, Nat.reduceLeDiff, Nat.reduceLT, Nat.reduceMul, Nat.reduceBEq, ↓reduceIte, reduceCtorEq, Int.reduceLT, Int.reduceLE, Int.reduceGT, Int.reduceGE, Int.reduceBEq, Int.reduceBNe, Int.reduceEq, Int.reduceNe, Int.reduceAdd, Int.reduceSub, Int.reduceMul, Int.reduceNeg, Int.reduceToNat]
  | succ k ih =>
    intro i out hk ho
    have hi : (i : Int) < (p.spreads.length : Int) := by omega
    have h0 : 0 ≤ (i : Int) := by omega
    have hlt : i < p.spreads.length := by omega
    have hci : p.spreads[i]? = some p.spreads[i] := by simp [hlt]
    have hmem : p.spreads[i] ∈ p.spreads := List.getElem_mem hlt
    have hd : p.spreads.drop i = p.spreads[i] :: p.spreads.drop (i + 1) := List.drop_eq_getElem_cons hlt
    generalize p.spreads[i] = c at hci hmem hd
    have hq := reqs_eq c.reqs (hr c hmem).1 (hr c hmem).2
    have hw : IntKind.i64.wrap ((i : Int) + 1) = ((i + 1 : Nat) : Int) := by rw [wrap_i64 (by omega) (by omega)]; omega
    have hol : out.length + 1 ≤ 2147483648 := by omega
    have := ih (i + 1) (out ++ [c]) (by omega) (by simp; omega)
    rw [List.append_assoc, List.singleton_append, List.map_append (l₂ := [_]), List.map_cons, List.map_nil, List.length_append (bs := [_]), List.length_cons, List.length_nil, Nat.zero_add] at this
    rw [hd, ← this, c_round]
    simp only [u24, Try.f24, hi, h0, hci, hw, hol, hq, Spread.d, sm, tys, Nat.reduceAdd, Nat.reduceSub, Nat.reduceEqDiff, Nat.reduceLeDiff, Nat.reduceLT, Nat.reduceMul, Nat.reduceBEq, ↓reduceIte, reduceCtorEq, Int.reduceLT, Int.reduceLE, Int.reduceGT, Int.reduceGE, Int.reduceBEq, Int.reduceBNe, Int.reduceEq, Int.reduceNe, Int.reduceAdd, Int.reduceSub, Int.reduceMul, Int.reduceNeg, Int.reduceToNat]
set_option maxHeartbeats 4000000 in
theorem pod_eq (p : Pod) (hp : p.ok) : v24 [.d p.d] [] = some (.d p.d, []) := by
  have h7 := pod_loop7 (b := bodyAt Try.f24 7) rfl p hp p.prefers.length 0 [] (by omega) rfl
  have h14 := pod_loop14 (b := bodyAt Try.f24 14) rfl p hp p.spreads.length 0 [] (by omega) rfl
  simp only [bodyAt, bodyOf, loop_seq, loop_cond, loop_block, loop_loop, loop_region, loop_skip, loop_ret, loop_exit, orE_some, orE_none, Code.first, Option.getD_some, Nat.reduceEqDiff, ↓reduceIte, Try.f24] at h7 h14
  simp only [Int.cast_ofNat_Int, List.map_nil, List.length_nil, List.drop_zero, List.nil_append] at h7 h14
  obtain ⟨a1, a2, a3, a4, a5, a6, a7, a8, a9⟩ := hp
  have l1 := labels_eq p.labels a1
  have l2 := reqs_eq p.asks a3.1 a3.2
  have l3 := ints_eq p.ports a5
  have l4 := terms_eq p.near a6.1 a6.2
  have l5 := terms_eq p.apart a7.1 a7.2
  have l6 := texts_eq p.claims a9
  have hb := all_Beard p.bears
  have hbl : p.bears.length ≤ 2147483648 := by unfold Small at a2; omega
  have e1 := List.take_length (l := p.bears.map Bear.d)
  have e2 := List.take_length (l := p.prefers.map Prefer.d)
  have e3 := List.take_length (l := p.spreads.map Spread.d)
  simp only [List.length_map] at e1 e2 e3
  simp only [u24, Try.f24, Pod.d, Pod.cs, l1, l2, l3, l4, l5, l6, hb, hbl, h7, h14, e1, e2, e3, sm, tys, Nat.reduceAdd, Nat.reduceSub, Nat.reduceEqDiff, Nat.reduceLeDiff, Nat.reduceLT, Nat.reduceMul, Nat.reduceBEq, ↓reduceIte, reduceCtorEq, Int.reduceLT, Int.reduceLE, Int.reduceGT, Int.reduceGE, Int.reduceBEq, Int.reduceBNe, Int.reduceEq, Int.reduceNe, Int.reduceAdd, Int.reduceSub, Int.reduceMul, Int.reduceNeg, Int.reduceToNat]
set_option maxHeartbeats 1000000 in
theorem pods_eq_loop {b : Code} (hb : b = bodyAt Try.f7 3) (l : List Pod) (hl : Small l) (h : ∀ p ∈ l, p.ok) : ∀ (k i : Nat) (out : List Pod), i + k = l.length → out.length = i →
    evLoop E7 0 b [(0, .d (.sl (l.map Pod.d))), (3, .own 0 (out.map Pod.d)), (4, .d (.int .i64 ((i : Int))))] [.tok 37 out.length 16] = some ([(0, .d (.sl (l.map Pod.d))), (3, .own 0 ((out ++ l.drop i).map Pod.d)), (4, .d (.int .i64 (l.length))), (9, .d (.bool false))], [.tok 37 (out ++ l.drop i).length 16], .exit 0) := by
  simp only [bodyAt, bodyOf, loop_seq, loop_cond, loop_block, loop_loop, loop_region, loop_skip, loop_ret, loop_exit, orE_some, orE_none, Code.first, Option.getD_some, Nat.reduceEqDiff, ↓reduceIte, Try.f7] at hb
  subst hb
  unfold Small at hl
  intro k
  induction k with
  | zero =>
    intro i out hk ho
    have hi : (i : Int) = (l.length : Int) := by omega
    have hd : l.drop i = [] := by rw [List.drop_eq_nil_iff]; omega
    rw [c_round, hd, List.append_nil]
    simp only [u7, Try.f7, hi, Int.lt_irrefl, sm, tys, Nat.reduceAdd, Nat.reduceSub, Nat.reduceEqDiff, Nat.reduceLeDiff, Nat.reduceLT, Nat.reduceMul, Nat.reduceBEq, ↓reduceIte, reduceCtorEq, Int.reduceLT, Int.reduceLE, Int.reduceGT, Int.reduceGE, Int.reduceBEq, Int.reduceBNe, Int.reduceEq, Int.reduceNe, Int.reduceAdd, Int.reduceSub, Int.reduceMul, Int.reduceNeg, Int.reduceToNat]
  | succ k ih =>
    intro i out hk ho
    have hi : (i : Int) < (l.length : Int) := by omega
    have h0 : 0 ≤ (i : Int) := by omega
    have hlt : i < l.length := by omega
    have hci : l[i]? = some l[i] := by simp [hlt]
    have hmem : l[i] ∈ l := List.getElem_mem hlt
    have hd : l.drop i = l[i] :: l.drop (i + 1) := List.drop_eq_getElem_cons hlt
    generalize l[i] = c at hci hmem hd
    have ht := pod_eq c (h c hmem)
    have hcc : c.d.cells.length = 16 := rfl
    have htk : D.agg (List.take 16 c.d.cells) = c.d := rfl
    have hw : IntKind.i64.wrap ((i : Int) + 1) = ((i + 1 : Nat) : Int) := by rw [wrap_i64 (by omega) (by omega)]; omega
    have hol : out.length + 1 ≤ 2147483648 := by omega
    have := ih (i + 1) (out ++ [c]) (by omega) (by simp; omega)
    rw [List.append_assoc, List.singleton_append, List.map_append (l₂ := [_]), List.map_cons, List.map_nil, List.length_append (bs := [_]), List.length_cons, List.length_nil, Nat.zero_add] at this
    rw [hd, ← this, c_round]
    simp only [u7, Try.f7, hi, h0, hci, hw, hol,   ht, hcc, htk, sm, tys, Nat.reduceAdd, Nat.reduceSub, Nat.reduceEqDiff, Nat.reduceLeDiff, Nat.reduceLT, Nat.reduceMul, Nat.reduceBEq, ↓reduceIte, reduceCtorEq, Int.reduceLT, Int.reduceLE, Int.reduceGT, Int.reduceGE, Int.reduceBEq, Int.reduceBNe, Int.reduceEq, Int.reduceNe, Int.reduceAdd, Int.reduceSub, Int.reduceMul, Int.reduceNeg, Int.reduceToNat]
theorem pods_eq (l : List Pod) (hl : Small l) (h : ∀ p ∈ l, p.ok) : v7 [.d (.sl (l.map Pod.d))] [] = some (.own 0 (l.map Pod.d), [.tok 37 l.length 16]) := by
  have hloop := pods_eq_loop (b := bodyAt Try.f7 3) rfl l hl h l.length 0 [] (by omega) rfl
  simp only [bodyAt, bodyOf, loop_seq, loop_cond, loop_block, loop_loop, loop_region, loop_skip, loop_ret, loop_exit, orE_some, orE_none, Code.first, Option.getD_some, Nat.reduceEqDiff, ↓reduceIte, Try.f7] at hloop
  simp only [Int.cast_ofNat_Int, List.map_nil, List.length_nil, List.drop_zero, List.nil_append] at hloop
  simp only [u7, Try.f7, hloop, sm, tys, Nat.reduceAdd, Nat.reduceSub, Nat.reduceEqDiff, Nat.reduceLeDiff, Nat.reduceLT, Nat.reduceMul, Nat.reduceBEq, ↓reduceIte, reduceCtorEq, Int.reduceLT, Int.reduceLE, Int.reduceGT, Int.reduceGE, Int.reduceBEq, Int.reduceBNe, Int.reduceEq, Int.reduceNe, Int.reduceAdd, Int.reduceSub, Int.reduceMul, Int.reduceNeg, Int.reduceToNat]
theorem node_eq (n : Node) (hn : n.ok) : v8 [.d n.d] [] = some (.d n.d, []) := by
  have l1 := labels_eq n.labels hn.1
  have hb := all_Taintd n.taints
  have hbl : n.taints.length ≤ 2147483648 := by have := hn.2; unfold Small at this; omega
  simp only [u8, Try.f8, Node.d, Node.cs, l1, hb, hbl, sm, tys, Nat.reduceAdd, Nat.reduceSub, Nat.reduceEqDiff, Nat.reduceLeDiff, Nat.reduceLT, Nat.reduceMul, Nat.reduceBEq, ↓reduceIte, reduceCtorEq, Int.reduceLT, Int.reduceLE, Int.reduceGT, Int.reduceGE, Int.reduceBEq, Int.reduceBNe, Int.reduceEq, Int.reduceNe, Int.reduceAdd, Int.reduceSub, Int.reduceMul, Int.reduceNeg, Int.reduceToNat]
set_option maxHeartbeats 4000000 in
theorem sameNode_loop {b : Code} (hb : b = bodyAt Try.f18 4) (n : Node) (hn : n.ok) : ∀ (k i : Nat), i + k = n.taints.length →
    evLoop E18 0 b [(2, .ptr 0 0), (3, .ptr 1 0), (5, .d (.int .i64 ((i : Int))))] [.box [.d (.str n.name), .d (.sl (n.labels.map Label.d)), .d (.sl (n.taints.map Taint.d)), .d (.bool n.off), .d (.int .i64 (n.give.cpu)), .d (.int .i64 (n.give.mem)), .d (.int .i64 (n.give.disk)), .d (.int .i64 (n.pods)), .d (.int .i64 (n.disks))], .box [.d (.str n.name), .d (.sl (n.labels.map Label.d)), .d (.sl (n.taints.map Taint.d)), .d (.bool n.off), .d (.int .i64 (n.give.cpu)), .d (.int .i64 (n.give.mem)), .d (.int .i64 (n.give.disk)), .d (.int .i64 (n.pods)), .d (.int .i64 (n.disks))]] = some ([(2, .ptr 0 0), (3, .ptr 1 0), (5, .d (.int .i64 (n.taints.length))), (60, .d (.bool false))], [.box [.d (.str n.name), .d (.sl (n.labels.map Label.d)), .d (.sl (n.taints.map Taint.d)), .d (.bool n.off), .d (.int .i64 (n.give.cpu)), .d (.int .i64 (n.give.mem)), .d (.int .i64 (n.give.disk)), .d (.int .i64 (n.pods)), .d (.int .i64 (n.disks))], .box [.d (.str n.name), .d (.sl (n.labels.map Label.d)), .d (.sl (n.taints.map Taint.d)), .d (.bool n.off), .d (.int .i64 (n.give.cpu)), .d (.int .i64 (n.give.mem)), .d (.int .i64 (n.give.disk)), .d (.int .i64 (n.pods)), .d (.int .i64 (n.disks))]], .exit 0) := by
  simp only [bodyAt, bodyOf, loop_seq, loop_cond, loop_block, loop_loop, loop_region, loop_skip, loop_ret, loop_exit, orE_some, orE_none, Code.first, Option.getD_some, Nat.reduceEqDiff, ↓reduceIte, Try.f18] at hb
  subst hb
  have hl := hn.2
  unfold Small at hl
  intro k
  induction k with
  | zero =>
    intro i hk
    have hi : (i : Int) = (n.taints.length : Int) := by omega
    rw [c_round]
    simp only [u18, Try.f18, hi, Int.lt_irrefl, sm, tys, Nat.reduceAdd, Nat.reduceSub, Nat.reduceEqDiff, Nat.reduceLeDiff, Nat.reduceLT, Nat.reduceMul, Nat.reduceBEq, ↓reduceIte, reduceCtorEq, Int.reduceLT, Int.reduceLE, Int.reduceGT, Int.reduceGE, Int.reduceBEq, Int.reduceBNe, Int.reduceEq, Int.reduceNe, Int.reduceAdd, Int.reduceSub, Int.reduceMul, Int.reduceNeg, Int.reduceToNat]
  | succ k ih =>
    intro i hk
    have hi : (i : Int) < (n.taints.length : Int) := by omega
    have h0 : 0 ≤ (i : Int) := by omega
    have hlt : i < n.taints.length := by omega
    have hci : n.taints[i]? = some n.taints[i] := by simp [hlt]
    generalize n.taints[i] = c at hci
    have hw : IntKind.i64.wrap ((i : Int) + 1) = ((i + 1 : Nat) : Int) := by rw [wrap_i64 (by omega) (by omega)]; omega
    rw [← ih (i + 1) (by omega), c_round]
    simp only [u18, Try.f18, hi, h0, hci, hw, Taint.d, sm, tys, Nat.reduceAdd, Nat.reduceSub, Nat.reduceEqDiff, Nat.reduceLeDiff, Nat.reduceLT, Nat.reduceMul, Nat.reduceBEq, ↓reduceIte, reduceCtorEq, Int.reduceLT, Int.reduceLE, Int.reduceGT, Int.reduceGE, Int.reduceBEq, Int.reduceBNe, Int.reduceEq, Int.reduceNe, Int.reduceAdd, Int.reduceSub, Int.reduceMul, Int.reduceNeg, Int.reduceToNat]
set_option maxHeartbeats 4000000 in
theorem sameNode (n : Node) (hn : n.ok) : v18 [.d n.d, .d n.d] [] = some (.d (.bool true), []) := by
  have hloop := sameNode_loop (b := bodyAt Try.f18 4) rfl n hn n.taints.length 0 (by omega)
  simp only [bodyAt, bodyOf, loop_seq, loop_cond, loop_block, loop_loop, loop_region, loop_skip, loop_ret, loop_exit, orE_some, orE_none, Code.first, Option.getD_some, Nat.reduceEqDiff, ↓reduceIte, Try.f18] at hloop
  simp only [Int.cast_ofNat_Int] at hloop
  have l1 := sameLabels n.labels hn.1
  simp only [u18, Try.f18, Node.d, Node.cs, hloop, l1, sm, tys, Nat.reduceAdd, Nat.reduceSub, Nat.reduceEqDiff, Nat.reduceLeDiff, Nat.reduceLT, Nat.reduceMul, Nat.reduceBEq, ↓reduceIte, reduceCtorEq, Int.reduceLT, Int.reduceLE, Int.reduceGT, Int.reduceGE, Int.reduceBEq, Int.reduceBNe, Int.reduceEq, Int.reduceNe, Int.reduceAdd, Int.reduceSub, Int.reduceMul, Int.reduceNeg, Int.reduceToNat]
/-- an info whose lists may be looked at -/
def Info.ok (x : Info) : Prop := x.node.ok ∧ Small x.names ∧ Small x.ports ∧ Small x.disks
set_option maxHeartbeats 4000000 in
theorem sameInfo (x : Info) (hx : x.ok) : v11 [.d x.d, .d x.d] [] = some (.d (.bool true), []) := by
  obtain ⟨h1, h2, h3, h4⟩ := hx
  have l1 := sameNode x.node h1
  have l2 := sameTexts x.names h2
  have l3 := sameInts x.ports h3
  have l4 := sameTexts x.disks h4
  simp only [Node.d, Node.cs] at l1
  simp only [u11, Try.f11, Info.d, Info.cs, Node.cs, l1, l2, l3, l4, sm, tys, Nat.reduceAdd, Nat.reduceSub, Nat.reduceEqDiff, Nat.reduceLeDiff, Nat.reduceLT, Nat.reduceMul, Nat.reduceBEq, ↓reduceIte, reduceCtorEq, Int.reduceLT, Int.reduceLE, Int.reduceGT, Int.reduceGE, Int.reduceBEq, Int.reduceBNe, Int.reduceEq, Int.reduceNe, Int.reduceAdd, Int.reduceSub, Int.reduceMul, Int.reduceNeg, Int.reduceToNat]
set_option maxHeartbeats 4000000 in
theorem samePod_loop6 {b : Code} (hb : b = bodyAt Try.f17 6) (p : Pod) (hp : p.ok) : ∀ (k i : Nat), i + k = p.bears.length →
    evLoop E17 0 b [(2, .ptr 0 0), (3, .ptr 1 0), (5, .d (.int .i64 ((i : Int))))] [.box [.d (.str p.name), .d (.int .i64 (p.prio)), .d (.sl (p.labels.map Label.d)), .d (.int .i64 (p.want.cpu)), .d (.int .i64 (p.want.mem)), .d (.int .i64 (p.want.disk)), .d (.sl (p.bears.map Bear.d)), .d (.sl (p.asks.map Req.d)), .d (.sl (p.prefers.map Prefer.d)), .d (.sl (p.ports.map intD)), .d (.sl (p.near.map Term.d)), .d (.sl (p.apart.map Term.d)), .d (.sl (p.spreads.map Spread.d)), .d (.sl (p.claims.map strD)), .d (.str p.node), .d (.str p.hope)], .box [.d (.str p.name), .d (.int .i64 (p.prio)), .d (.sl (p.labels.map Label.d)), .d (.int .i64 (p.want.cpu)), .d (.int .i64 (p.want.mem)), .d (.int .i64 (p.want.disk)), .d (.sl (p.bears.map Bear.d)), .d (.sl (p.asks.map Req.d)), .d (.sl (p.prefers.map Prefer.d)), .d (.sl (p.ports.map intD)), .d (.sl (p.near.map Term.d)), .d (.sl (p.apart.map Term.d)), .d (.sl (p.spreads.map Spread.d)), .d (.sl (p.claims.map strD)), .d (.str p.node), .d (.str p.hope)]] = some ([(2, .ptr 0 0), (3, .ptr 1 0), (5, .d (.int .i64 (p.bears.length))), (120, .d (.bool false))], [.box [.d (.str p.name), .d (.int .i64 (p.prio)), .d (.sl (p.labels.map Label.d)), .d (.int .i64 (p.want.cpu)), .d (.int .i64 (p.want.mem)), .d (.int .i64 (p.want.disk)), .d (.sl (p.bears.map Bear.d)), .d (.sl (p.asks.map Req.d)), .d (.sl (p.prefers.map Prefer.d)), .d (.sl (p.ports.map intD)), .d (.sl (p.near.map Term.d)), .d (.sl (p.apart.map Term.d)), .d (.sl (p.spreads.map Spread.d)), .d (.sl (p.claims.map strD)), .d (.str p.node), .d (.str p.hope)], .box [.d (.str p.name), .d (.int .i64 (p.prio)), .d (.sl (p.labels.map Label.d)), .d (.int .i64 (p.want.cpu)), .d (.int .i64 (p.want.mem)), .d (.int .i64 (p.want.disk)), .d (.sl (p.bears.map Bear.d)), .d (.sl (p.asks.map Req.d)), .d (.sl (p.prefers.map Prefer.d)), .d (.sl (p.ports.map intD)), .d (.sl (p.near.map Term.d)), .d (.sl (p.apart.map Term.d)), .d (.sl (p.spreads.map Spread.d)), .d (.sl (p.claims.map strD)), .d (.str p.node), .d (.str p.hope)]], .exit 0) := by
  simp only [bodyAt, bodyOf, loop_seq, loop_cond, loop_block, loop_loop, loop_region, loop_skip, loop_ret, loop_exit, orE_some, orE_none, Code.first, Option.getD_some, Nat.reduceEqDiff, ↓reduceIte, Try.f17] at hb
  subst hb
  obtain ⟨a1, a2, a3, a4, a5, a6, a7, a8, a9⟩ := hp
  unfold Small at a2
  have a4' := a4.1
  have a8' := a8.1
  unfold Small at a4' a8'
  intro k
  induction k with
  | zero =>
    intro i hk
    have hi : (i : Int) = (p.bears.length : Int) := by omega
    rw [c_round]
    simp only [u17, Try.f17, hi, Int.lt_irrefl, sm, tys, Nat.reduceAdd, Nat.reduceSub, Nat.reduceEqDiff, Nat.reduceLeDiff, Nat.reduceLT, Nat.reduceMul, Nat.reduceBEq, ↓reduceIte, reduceCtorEq, Int.reduceLT, Int.reduceLE, Int.reduceGT, Int.reduceGE, Int.reduceBEq, Int.reduceBNe, Int.reduceEq, Int.reduceNe, Int.reduceAdd, Int.reduceSub, Int.reduceMul, Int.reduceNeg, Int.reduceToNat]
  | succ k ih =>
    intro i hk
    have hi : (i : Int) < (p.bears.length : Int) := by omega
    have h0 : 0 ≤ (i : Int) := by omega
    have hlt : i < p.bears.length := by omega
    have hci : p.bears[i]? = some p.bears[i] := by simp [hlt]
    have hmem : p.bears[i] ∈ p.bears := List.getElem_mem hlt
    generalize p.bears[i] = c at hci hmem
    have hw : IntKind.i64.wrap ((i : Int) + 1) = ((i + 1 : Nat) : Int) := by rw [wrap_i64 (by omega) (by omega)]; omega
    rw [← ih (i + 1) (by omega), c_round]
    simp only [u17, Try.f17, hi, h0, hci, hw, Bear.d, sm, tys, Nat.reduceAdd, Nat.reduceSub, Nat.reduceEqDiff, Nat.reduceLeDiff, Nat.reduceLT, Nat.reduceMul, Nat.reduceBEq, ↓reduceIte, reduceCtorEq, Int.reduceLT, Int.reduceLE, Int.reduceGT, Int.reduceGE, Int.reduceBEq, Int.reduceBNe, Int.reduceEq, Int.reduceNe, Int.reduceAdd, Int.reduceSub, Int.reduceMul, Int.reduceNeg, Int.reduceToNat]
set_option maxHeartbeats 4000000 in
theorem samePod_loop11 {b : Code} (hb : b = bodyAt Try.f17 11) (p : Pod) (hp : p.ok) : ∀ (k i : Nat), i + k = p.prefers.length →
    evLoop E17 0 b [(2, .ptr 0 0), (3, .ptr 1 0), (6, .d (.int .i64 ((i : Int))))] [.box [.d (.str p.name), .d (.int .i64 (p.prio)), .d (.sl (p.labels.map Label.d)), .d (.int .i64 (p.want.cpu)), .d (.int .i64 (p.want.mem)), .d (.int .i64 (p.want.disk)), .d (.sl (p.bears.map Bear.d)), .d (.sl (p.asks.map Req.d)), .d (.sl (p.prefers.map Prefer.d)), .d (.sl (p.ports.map intD)), .d (.sl (p.near.map Term.d)), .d (.sl (p.apart.map Term.d)), .d (.sl (p.spreads.map Spread.d)), .d (.sl (p.claims.map strD)), .d (.str p.node), .d (.str p.hope)], .box [.d (.str p.name), .d (.int .i64 (p.prio)), .d (.sl (p.labels.map Label.d)), .d (.int .i64 (p.want.cpu)), .d (.int .i64 (p.want.mem)), .d (.int .i64 (p.want.disk)), .d (.sl (p.bears.map Bear.d)), .d (.sl (p.asks.map Req.d)), .d (.sl (p.prefers.map Prefer.d)), .d (.sl (p.ports.map intD)), .d (.sl (p.near.map Term.d)), .d (.sl (p.apart.map Term.d)), .d (.sl (p.spreads.map Spread.d)), .d (.sl (p.claims.map strD)), .d (.str p.node), .d (.str p.hope)]] = some ([(2, .ptr 0 0), (3, .ptr 1 0), (6, .d (.int .i64 (p.prefers.length))), (138, .d (.bool false))], [.box [.d (.str p.name), .d (.int .i64 (p.prio)), .d (.sl (p.labels.map Label.d)), .d (.int .i64 (p.want.cpu)), .d (.int .i64 (p.want.mem)), .d (.int .i64 (p.want.disk)), .d (.sl (p.bears.map Bear.d)), .d (.sl (p.asks.map Req.d)), .d (.sl (p.prefers.map Prefer.d)), .d (.sl (p.ports.map intD)), .d (.sl (p.near.map Term.d)), .d (.sl (p.apart.map Term.d)), .d (.sl (p.spreads.map Spread.d)), .d (.sl (p.claims.map strD)), .d (.str p.node), .d (.str p.hope)], .box [.d (.str p.name), .d (.int .i64 (p.prio)), .d (.sl (p.labels.map Label.d)), .d (.int .i64 (p.want.cpu)), .d (.int .i64 (p.want.mem)), .d (.int .i64 (p.want.disk)), .d (.sl (p.bears.map Bear.d)), .d (.sl (p.asks.map Req.d)), .d (.sl (p.prefers.map Prefer.d)), .d (.sl (p.ports.map intD)), .d (.sl (p.near.map Term.d)), .d (.sl (p.apart.map Term.d)), .d (.sl (p.spreads.map Spread.d)), .d (.sl (p.claims.map strD)), .d (.str p.node), .d (.str p.hope)]], .exit 2) := by
  simp only [bodyAt, bodyOf, loop_seq, loop_cond, loop_block, loop_loop, loop_region, loop_skip, loop_ret, loop_exit, orE_some, orE_none, Code.first, Option.getD_some, Nat.reduceEqDiff, ↓reduceIte, Try.f17] at hb
  subst hb
  obtain ⟨a1, a2, a3, a4, a5, a6, a7, a8, a9⟩ := hp
  unfold Small at a2
  have a4' := a4.1
  have a8' := a8.1
  unfold Small at a4' a8'
  intro k
  induction k with
  | zero =>
    intro i hk
    have hi : (i : Int) = (p.prefers.length : Int) := by omega
    rw [c_round]
    simp only [u17, Try.f17, hi, Int.lt_irrefl, sm, tys, Nat.reduceAdd, Nat.reduceSub, Nat.reduceEqDiff, Nat.reduceLeDiff, Nat.reduceLT, Nat.reduceMul, Nat.reduceBEq, ↓reduceIte, reduceCtorEq, Int.reduceLT, Int.reduceLE, Int.reduceGT, Int.reduceGE, Int.reduceBEq, Int.reduceBNe, Int.reduceEq, Int.reduceNe, Int.reduceAdd, Int.reduceSub, Int.reduceMul, Int.reduceNeg, Int.reduceToNat]
  | succ k ih =>
    intro i hk
    have hi : (i : Int) < (p.prefers.length : Int) := by omega
    have h0 : 0 ≤ (i : Int) := by omega
    have hlt : i < p.prefers.length := by omega
    have hci : p.prefers[i]? = some p.prefers[i] := by simp [hlt]
    have hmem : p.prefers[i] ∈ p.prefers := List.getElem_mem hlt
    generalize p.prefers[i] = c at hci hmem
    have hs := sameReqs c.reqs (a4.2 c hmem).1 (a4.2 c hmem).2
    have hw : IntKind.i64.wrap ((i : Int) + 1) = ((i + 1 : Nat) : Int) := by rw [wrap_i64 (by omega) (by omega)]; omega
    rw [← ih (i + 1) (by omega), c_round]
    simp only [u17, Try.f17, hi, h0, hci, hw, Prefer.d, hs, sm, tys, Nat.reduceAdd, Nat.reduceSub, Nat.reduceEqDiff, Nat.reduceLeDiff, Nat.reduceLT, Nat.reduceMul, Nat.reduceBEq, ↓reduceIte, reduceCtorEq, Int.reduceLT, Int.reduceLE, Int.reduceGT, Int.reduceGE, Int.reduceBEq, Int.reduceBNe, Int.reduceEq, Int.reduceNe, Int.reduceAdd, Int.reduceSub, Int.reduceMul, Int.reduceNeg, Int.reduceToNat]
set_option maxHeartbeats 4000000 in
theorem samePod_loop16 {b : Code} (hb : b = bodyAt Try.f17 16) (p : Pod) (hp : p.ok) : ∀ (k i : Nat), i + k = p.spreads.length →
    evLoop E17 0 b [(2, .ptr 0 0), (3, .ptr 1 0), (7, .d (.int .i64 ((i : Int))))] [.box [.d (.str p.name), .d (.int .i64 (p.prio)), .d (.sl (p.labels.map Label.d)), .d (.int .i64 (p.want.cpu)), .d (.int .i64 (p.want.mem)), .d (.int .i64 (p.want.disk)), .d (.sl (p.bears.map Bear.d)), .d (.sl (p.asks.map Req.d)), .d (.sl (p.prefers.map Prefer.d)), .d (.sl (p.ports.map intD)), .d (.sl (p.near.map Term.d)), .d (.sl (p.apart.map Term.d)), .d (.sl (p.spreads.map Spread.d)), .d (.sl (p.claims.map strD)), .d (.str p.node), .d (.str p.hope)], .box [.d (.str p.name), .d (.int .i64 (p.prio)), .d (.sl (p.labels.map Label.d)), .d (.int .i64 (p.want.cpu)), .d (.int .i64 (p.want.mem)), .d (.int .i64 (p.want.disk)), .d (.sl (p.bears.map Bear.d)), .d (.sl (p.asks.map Req.d)), .d (.sl (p.prefers.map Prefer.d)), .d (.sl (p.ports.map intD)), .d (.sl (p.near.map Term.d)), .d (.sl (p.apart.map Term.d)), .d (.sl (p.spreads.map Spread.d)), .d (.sl (p.claims.map strD)), .d (.str p.node), .d (.str p.hope)]] = some ([(2, .ptr 0 0), (3, .ptr 1 0), (7, .d (.int .i64 (p.spreads.length))), (174, .d (.bool false))], [.box [.d (.str p.name), .d (.int .i64 (p.prio)), .d (.sl (p.labels.map Label.d)), .d (.int .i64 (p.want.cpu)), .d (.int .i64 (p.want.mem)), .d (.int .i64 (p.want.disk)), .d (.sl (p.bears.map Bear.d)), .d (.sl (p.asks.map Req.d)), .d (.sl (p.prefers.map Prefer.d)), .d (.sl (p.ports.map intD)), .d (.sl (p.near.map Term.d)), .d (.sl (p.apart.map Term.d)), .d (.sl (p.spreads.map Spread.d)), .d (.sl (p.claims.map strD)), .d (.str p.node), .d (.str p.hope)], .box [.d (.str p.name), .d (.int .i64 (p.prio)), .d (.sl (p.labels.map Label.d)), .d (.int .i64 (p.want.cpu)), .d (.int .i64 (p.want.mem)), .d (.int .i64 (p.want.disk)), .d (.sl (p.bears.map Bear.d)), .d (.sl (p.asks.map Req.d)), .d (.sl (p.prefers.map Prefer.d)), .d (.sl (p.ports.map intD)), .d (.sl (p.near.map Term.d)), .d (.sl (p.apart.map Term.d)), .d (.sl (p.spreads.map Spread.d)), .d (.sl (p.claims.map strD)), .d (.str p.node), .d (.str p.hope)]], .exit 4) := by
  simp only [bodyAt, bodyOf, loop_seq, loop_cond, loop_block, loop_loop, loop_region, loop_skip, loop_ret, loop_exit, orE_some, orE_none, Code.first, Option.getD_some, Nat.reduceEqDiff, ↓reduceIte, Try.f17] at hb
  subst hb
  obtain ⟨a1, a2, a3, a4, a5, a6, a7, a8, a9⟩ := hp
  unfold Small at a2
  have a4' := a4.1
  have a8' := a8.1
  unfold Small at a4' a8'
  intro k
  induction k with
  | zero =>
    intro i hk
    have hi : (i : Int) = (p.spreads.length : Int) := by omega
    rw [c_round]
    simp only [u17, Try.f17, hi, Int.lt_irrefl, sm, tys, Nat.reduceAdd, Nat.reduceSub, Nat.reduceEqDiff, Nat.reduceLeDiff, Nat.reduceLT, Nat.reduceMul, Nat.reduceBEq, ↓reduceIte, reduceCtorEq, Int.reduceLT, Int.reduceLE, Int.reduceGT, Int.reduceGE, Int.reduceBEq, Int.reduceBNe, Int.reduceEq, Int.reduceNe, Int.reduceAdd, Int.reduceSub, Int.reduceMul, Int.reduceNeg, Int.reduceToNat]
  | succ k ih =>
    intro i hk
    have hi : (i : Int) < (p.spreads.length : Int) := by omega
    have h0 : 0 ≤ (i : Int) := by omega
    have hlt : i < p.spreads.length := by omega
    have hci : p.spreads[i]? = some p.spreads[i] := by simp [hlt]
    have hmem : p.spreads[i] ∈ p.spreads := List.getElem_mem hlt
    generalize p.spreads[i] = c at hci hmem
    have hs := sameReqs c.reqs (a8.2 c hmem).1 (a8.2 c hmem).2
    have hw : IntKind.i64.wrap ((i : Int) + 1) = ((i + 1 : Nat) : Int) := by rw [wrap_i64 (by omega) (by omega)]; omega
    rw [← ih (i + 1) (by omega), c_round]
    simp only [u17, Try.f17, hi, h0, hci, hw, Spread.d, hs, sm, tys, Nat.reduceAdd, Nat.reduceSub, Nat.reduceEqDiff, Nat.reduceLeDiff, Nat.reduceLT, Nat.reduceMul, Nat.reduceBEq, ↓reduceIte, reduceCtorEq, Int.reduceLT, Int.reduceLE, Int.reduceGT, Int.reduceGE, Int.reduceBEq, Int.reduceBNe, Int.reduceEq, Int.reduceNe, Int.reduceAdd, Int.reduceSub, Int.reduceMul, Int.reduceNeg, Int.reduceToNat]
set_option maxHeartbeats 8000000 in
theorem samePod (p : Pod) (hp : p.ok) : v17 [.d p.d, .d p.d] [] = some (.d (.bool true), []) := by
  have q1 := samePod_loop6 (b := bodyAt Try.f17 6) rfl p hp p.bears.length 0 (by omega)
  have q2 := samePod_loop11 (b := bodyAt Try.f17 11) rfl p hp p.prefers.length 0 (by omega)
  have q3 := samePod_loop16 (b := bodyAt Try.f17 16) rfl p hp p.spreads.length 0 (by omega)
  simp only [bodyAt, bodyOf, loop_seq, loop_cond, loop_block, loop_loop, loop_region, loop_skip, loop_ret, loop_exit, orE_some, orE_none, Code.first, Option.getD_some, Nat.reduceEqDiff, ↓reduceIte, Try.f17] at q1 q2 q3
  simp only [Int.cast_ofNat_Int] at q1 q2 q3
  obtain ⟨a1, a2, a3, a4, a5, a6, a7, a8, a9⟩ := hp
  have l1 := sameLabels p.labels a1
  have l2 := sameReqs p.asks a3.1 a3.2
  have l3 := sameInts p.ports a5
  have l4 := sameTerms p.near a6.1 a6.2
  have l5 := sameTerms p.apart a7.1 a7.2
  have l6 := sameTexts p.claims a9
  simp only [u17, Try.f17, Pod.d, Pod.cs, l1, l2, l3, l4, l5, l6, q1, q2, q3, sm, tys, Nat.reduceAdd, Nat.reduceSub, Nat.reduceEqDiff, Nat.reduceLeDiff, Nat.reduceLT, Nat.reduceMul, Nat.reduceBEq, ↓reduceIte, reduceCtorEq, Int.reduceLT, Int.reduceLE, Int.reduceGT, Int.reduceGE, Int.reduceBEq, Int.reduceBNe, Int.reduceEq, Int.reduceNe, Int.reduceAdd, Int.reduceSub, Int.reduceMul, Int.reduceNeg, Int.reduceToNat]
end Go.Wm.Try1
namespace Go.Wm.Try1
open Go Go.Wm Go.Proofs
/-- amounts -/
def cl (a : Int) : Int := if a < 0 then 0 else if 1125899906842624 < a then 1125899906842624 else a
theorem cl_nn (a : Int) : 0 ≤ cl a := by unfold cl; split <;> (try split) <;> omega
theorem cl_le (a : Int) : cl a ≤ 1125899906842624 := by unfold cl; split <;> (try split) <;> omega
theorem cl_id (a : Int) (h1 : 0 ≤ a) (h2 : a ≤ 1125899906842624) : cl a = a := by unfold cl; rw [if_neg (by omega), if_neg (by omega)]
def addA (a b : Int) : Int := cl (cl a + cl b)
def subA (a b : Int) : Int := cl (cl a - cl b)
theorem clamp_eq (a : Int) : v73 [.d (.int .i64 (a))] [] = some (.d (.int .i64 (cl a)), []) := by
  unfold cl
  by_cases h1 : a < 0
  · simp only [u73, Try.f73, h1, sm, tys, Nat.reduceAdd, Nat.reduceSub, Nat.reduceEqDiff, Nat.reduceLeDiff, Nat.reduceLT, Nat.reduceMul, Nat.reduceBEq, ↓reduceIte, reduceCtorEq, Int.reduceLT, Int.reduceLE, Int.reduceGT, Int.reduceGE, Int.reduceBEq, Int.reduceBNe, Int.reduceEq, Int.reduceNe, Int.reduceAdd, Int.reduceSub, Int.reduceMul, Int.reduceNeg, Int.reduceToNat]
  · by_cases h2 : 1125899906842624 < a
    · simp only [u73, Try.f73, h1, h2, sm, tys, Nat.reduceAdd, Nat.reduceSub, Nat.reduceEqDiff, Nat.reduceLeDiff, Nat.reduceLT, Nat.reduceMul, Nat.reduceBEq, ↓reduceIte, reduceCtorEq, Int.reduceLT, Int.reduceLE, Int.reduceGT, Int.reduceGE, Int.reduceBEq, Int.reduceBNe, Int.reduceEq, Int.reduceNe, Int.reduceAdd, Int.reduceSub, Int.reduceMul, Int.reduceNeg, Int.reduceToNat]
    · simp only [u73, Try.f73, h1, h2, sm, tys, Nat.reduceAdd, Nat.reduceSub, Nat.reduceEqDiff, Nat.reduceLeDiff, Nat.reduceLT, Nat.reduceMul, Nat.reduceBEq, ↓reduceIte, reduceCtorEq, Int.reduceLT, Int.reduceLE, Int.reduceGT, Int.reduceGE, Int.reduceBEq, Int.reduceBNe, Int.reduceEq, Int.reduceNe, Int.reduceAdd, Int.reduceSub, Int.reduceMul, Int.reduceNeg, Int.reduceToNat]
theorem rclamp_eq (a : Int) : v71 [.d (.int .i64 (a))] [] = some (.d (.int .i64 (cl a)), []) := by
  unfold cl
  by_cases h2 : 1125899906842624 < a
  · have h1 : ¬ a < 0 := by omega
    simp only [u71, Try.f71, h1, h2, sm, tys, Nat.reduceAdd, Nat.reduceSub, Nat.reduceEqDiff, Nat.reduceLeDiff, Nat.reduceLT, Nat.reduceMul, Nat.reduceBEq, ↓reduceIte, reduceCtorEq, Int.reduceLT, Int.reduceLE, Int.reduceGT, Int.reduceGE, Int.reduceBEq, Int.reduceBNe, Int.reduceEq, Int.reduceNe, Int.reduceAdd, Int.reduceSub, Int.reduceMul, Int.reduceNeg, Int.reduceToNat]
  · by_cases h1 : a < 0
    · have h3 : ¬ 0 < a := by omega
      simp only [u71, Try.f71, h1, h2, h3, sm, tys, Nat.reduceAdd, Nat.reduceSub, Nat.reduceEqDiff, Nat.reduceLeDiff, Nat.reduceLT, Nat.reduceMul, Nat.reduceBEq, ↓reduceIte, reduceCtorEq, Int.reduceLT, Int.reduceLE, Int.reduceGT, Int.reduceGE, Int.reduceBEq, Int.reduceBNe, Int.reduceEq, Int.reduceNe, Int.reduceAdd, Int.reduceSub, Int.reduceMul, Int.reduceNeg, Int.reduceToNat]
    · by_cases h3 : 0 < a
      · simp only [u71, Try.f71, h1, h2, h3, sm, tys, Nat.reduceAdd, Nat.reduceSub, Nat.reduceEqDiff, Nat.reduceLeDiff, Nat.reduceLT, Nat.reduceMul, Nat.reduceBEq, ↓reduceIte, reduceCtorEq, Int.reduceLT, Int.reduceLE, Int.reduceGT, Int.reduceGE, Int.reduceBEq, Int.reduceBNe, Int.reduceEq, Int.reduceNe, Int.reduceAdd, Int.reduceSub, Int.reduceMul, Int.reduceNeg, Int.reduceToNat]
      · have : a = 0 := by omega
        subst this
        simp only [u71, Try.f71, sm, tys, Nat.reduceAdd, Nat.reduceSub, Nat.reduceEqDiff, Nat.reduceLeDiff, Nat.reduceLT, Nat.reduceMul, Nat.reduceBEq, ↓reduceIte, reduceCtorEq, Int.reduceLT, Int.reduceLE, Int.reduceGT, Int.reduceGE, Int.reduceBEq, Int.reduceBNe, Int.reduceEq, Int.reduceNe, Int.reduceAdd, Int.reduceSub, Int.reduceMul, Int.reduceNeg, Int.reduceToNat]
theorem wr_i64 (n : Int) (h1 : -2251799813685248 ≤ n) (h2 : n ≤ 2251799813685248) : IntKind.i64.wrap n = n := wrap_i64 (by omega) (by omega)
theorem add_eq (a b : Int) : v65 [.d (.int .i64 (a)), .d (.int .i64 (b))] [] = some (.d (.int .i64 (addA a b)), []) := by
  have h1 := clamp_eq a
  have h2 := clamp_eq b
  have h3 := clamp_eq (cl a + cl b)
  have hw : IntKind.i64.wrap (cl a + cl b) = cl a + cl b := by
    have := cl_nn a; have := cl_nn b; have := cl_le a; have := cl_le b
    exact wr_i64 _ (by omega) (by omega)
  simp only [u65, Try.f65, h1, h2, hw, h3, addA, sm, tys, Nat.reduceAdd, Nat.reduceSub, Nat.reduceEqDiff, Nat.reduceLeDiff, Nat.reduceLT, Nat.reduceMul, Nat.reduceBEq, ↓reduceIte, reduceCtorEq, Int.reduceLT, Int.reduceLE, Int.reduceGT, Int.reduceGE, Int.reduceBEq, Int.reduceBNe, Int.reduceEq, Int.reduceNe, Int.reduceAdd, Int.reduceSub, Int.reduceMul, Int.reduceNeg, Int.reduceToNat]
theorem sub_eq (a b : Int) : v72 [.d (.int .i64 (a)), .d (.int .i64 (b))] [] = some (.d (.int .i64 (subA a b)), []) := by
  have h1 := clamp_eq a
  have h2 := clamp_eq b
  have h3 := clamp_eq (cl a - cl b)
  have hw : IntKind.i64.wrap (cl a - cl b) = cl a - cl b := by
    have := cl_nn a; have := cl_nn b; have := cl_le a; have := cl_le b
    exact wr_i64 _ (by omega) (by omega)
  simp only [u72, Try.f72, h1, h2, hw, h3, subA, sm, tys, Nat.reduceAdd, Nat.reduceSub, Nat.reduceEqDiff, Nat.reduceLeDiff, Nat.reduceLT, Nat.reduceMul, Nat.reduceBEq, ↓reduceIte, reduceCtorEq, Int.reduceLT, Int.reduceLE, Int.reduceGT, Int.reduceGE, Int.reduceBEq, Int.reduceBNe, Int.reduceEq, Int.reduceNe, Int.reduceAdd, Int.reduceSub, Int.reduceMul, Int.reduceNeg, Int.reduceToNat]
theorem radd_eq (a b : Int) : v58 [.d (.int .i64 (a)), .d (.int .i64 (b))] [] = some (.d (.int .i64 (addA a b)), []) := by
  have h1 := rclamp_eq a
  have h2 := rclamp_eq b
  have q1 := cl_nn a; have q2 := cl_nn b; have q3 := cl_le a; have q4 := cl_le b
  have hw : IntKind.i64.wrap (cl a + cl b) = cl a + cl b := wr_i64 _ (by omega) (by omega)
  unfold addA
  by_cases h : cl a + cl b < 1125899906842624
  · rw [cl_id (cl a + cl b) (by omega) (by omega)]
    simp only [u58, Try.f58, h1, h2, hw, h, sm, tys, Nat.reduceAdd, Nat.reduceSub, Nat.reduceEqDiff, Nat.reduceLeDiff, Nat.reduceLT, Nat.reduceMul, Nat.reduceBEq, ↓reduceIte, reduceCtorEq, Int.reduceLT, Int.reduceLE, Int.reduceGT, Int.reduceGE, Int.reduceBEq, Int.reduceBNe, Int.reduceEq, Int.reduceNe, Int.reduceAdd, Int.reduceSub, Int.reduceMul, Int.reduceNeg, Int.reduceToNat]
  · have e : cl (cl a + cl b) = 1125899906842624 := by
      generalize cl a + cl b = x at *
      unfold cl
      split <;> (try split) <;> omega
    rw [e]
    simp only [u58, Try.f58, h1, h2, hw, h, sm, tys, Nat.reduceAdd, Nat.reduceSub, Nat.reduceEqDiff, Nat.reduceLeDiff, Nat.reduceLT, Nat.reduceMul, Nat.reduceBEq, ↓reduceIte, reduceCtorEq, Int.reduceLT, Int.reduceLE, Int.reduceGT, Int.reduceGE, Int.reduceBEq, Int.reduceBNe, Int.reduceEq, Int.reduceNe, Int.reduceAdd, Int.reduceSub, Int.reduceMul, Int.reduceNeg, Int.reduceToNat]
theorem rsub_eq (a b : Int) : v60 [.d (.int .i64 (a)), .d (.int .i64 (b))] [] = some (.d (.int .i64 (subA a b)), []) := by
  have h1 := rclamp_eq a
  have h2 := rclamp_eq b
  have q1 := cl_nn a; have q2 := cl_nn b; have q3 := cl_le a; have q4 := cl_le b
  have hw : IntKind.i64.wrap (cl a - cl b) = cl a - cl b := wr_i64 _ (by omega) (by omega)
  unfold subA
  by_cases h : 0 < cl a - cl b
  · rw [cl_id (cl a - cl b) (by omega) (by omega)]
    simp only [u60, Try.f60, h1, h2, hw, h, sm, tys, Nat.reduceAdd, Nat.reduceSub, Nat.reduceEqDiff, Nat.reduceLeDiff, Nat.reduceLT, Nat.reduceMul, Nat.reduceBEq, ↓reduceIte, reduceCtorEq, Int.reduceLT, Int.reduceLE, Int.reduceGT, Int.reduceGE, Int.reduceBEq, Int.reduceBNe, Int.reduceEq, Int.reduceNe, Int.reduceAdd, Int.reduceSub, Int.reduceMul, Int.reduceNeg, Int.reduceToNat]
  · have e : cl (cl a - cl b) = 0 := by
      generalize cl a - cl b = x at *
      unfold cl
      split <;> (try split) <;> omega
    rw [e]
    simp only [u60, Try.f60, h1, h2, hw, h, sm, tys, Nat.reduceAdd, Nat.reduceSub, Nat.reduceEqDiff, Nat.reduceLeDiff, Nat.reduceLT, Nat.reduceMul, Nat.reduceBEq, ↓reduceIte, reduceCtorEq, Int.reduceLT, Int.reduceLE, Int.reduceGT, Int.reduceGE, Int.reduceBEq, Int.reduceBNe, Int.reduceEq, Int.reduceNe, Int.reduceAdd, Int.reduceSub, Int.reduceMul, Int.reduceNeg, Int.reduceToNat]
def Res.add (a b : Res) : Res := ⟨addA a.cpu b.cpu, addA a.mem b.mem, addA a.disk b.disk⟩
def Res.sub (a b : Res) : Res := ⟨subA a.cpu b.cpu, subA a.mem b.mem, subA a.disk b.disk⟩
theorem rplus_eq (a b : Res) : v31 [.d a.d, .d b.d] [] = some (.d (a.add b).d, []) := by
  simp only [u31, Try.f31, Res.d, Res.add, radd_eq, sm, tys, Nat.reduceAdd, Nat.reduceSub, Nat.reduceEqDiff, Nat.reduceLeDiff, Nat.reduceLT, Nat.reduceMul, Nat.reduceBEq, ↓reduceIte, reduceCtorEq, Int.reduceLT, Int.reduceLE, Int.reduceGT, Int.reduceGE, Int.reduceBEq, Int.reduceBNe, Int.reduceEq, Int.reduceNe, Int.reduceAdd, Int.reduceSub, Int.reduceMul, Int.reduceNeg, Int.reduceToNat]
theorem rminus_eq (a b : Res) : v37 [.d a.d, .d b.d] [] = some (.d (a.sub b).d, []) := by
  simp only [u37, Try.f37, Res.d, Res.sub, rsub_eq, sm, tys, Nat.reduceAdd, Nat.reduceSub, Nat.reduceEqDiff, Nat.reduceLeDiff, Nat.reduceLT, Nat.reduceMul, Nat.reduceBEq, ↓reduceIte, reduceCtorEq, Int.reduceLT, Int.reduceLE, Int.reduceGT, Int.reduceGE, Int.reduceBEq, Int.reduceBNe, Int.reduceEq, Int.reduceNe, Int.reduceAdd, Int.reduceSub, Int.reduceMul, Int.reduceNeg, Int.reduceToNat]
theorem of_eq (a : Res) : v63 [.d a.d] [] = some (.d a.d, []) := by
  simp only [u63, Try.f63, Res.d, sm, tys, Nat.reduceAdd, Nat.reduceSub, Nat.reduceEqDiff, Nat.reduceLeDiff, Nat.reduceLT, Nat.reduceMul, Nat.reduceBEq, ↓reduceIte, reduceCtorEq, Int.reduceLT, Int.reduceLE, Int.reduceGT, Int.reduceGE, Int.reduceBEq, Int.reduceBNe, Int.reduceEq, Int.reduceNe, Int.reduceAdd, Int.reduceSub, Int.reduceMul, Int.reduceNeg, Int.reduceToNat]
theorem res_eq (a : Res) : v64 [.d a.d] [] = some (.d a.d, []) := by
  simp only [u64, Try.f64, Res.d, sm, tys, Nat.reduceAdd, Nat.reduceSub, Nat.reduceEqDiff, Nat.reduceLeDiff, Nat.reduceLT, Nat.reduceMul, Nat.reduceBEq, ↓reduceIte, reduceCtorEq, Int.reduceLT, Int.reduceLE, Int.reduceGT, Int.reduceGE, Int.reduceBEq, Int.reduceBNe, Int.reduceEq, Int.reduceNe, Int.reduceAdd, Int.reduceSub, Int.reduceMul, Int.reduceNeg, Int.reduceToNat]
set_option maxHeartbeats 1000000 in
theorem vplus_eq (a b : Res) : v46 [.d a.d, .d b.d] [] = some (.d (a.add b).d, []) := by
  simp only [u46, Try.f46, Res.d, Res.add, add_eq, c_round, sm, tys, Nat.reduceAdd, Nat.reduceSub, Nat.reduceEqDiff, Nat.reduceLeDiff, Nat.reduceLT, Nat.reduceMul, Nat.reduceBEq, ↓reduceIte, reduceCtorEq, Int.reduceLT, Int.reduceLE, Int.reduceGT, Int.reduceGE, Int.reduceBEq, Int.reduceBNe, Int.reduceEq, Int.reduceNe, Int.reduceAdd, Int.reduceSub, Int.reduceMul, Int.reduceNeg, Int.reduceToNat]
set_option maxHeartbeats 1000000 in
theorem vminus_eq (a b : Res) : v59 [.d a.d, .d b.d] [] = some (.d (a.sub b).d, []) := by
  simp only [u59, Try.f59, Res.d, Res.sub, sub_eq, c_round, sm, tys, Nat.reduceAdd, Nat.reduceSub, Nat.reduceEqDiff, Nat.reduceLeDiff, Nat.reduceLT, Nat.reduceMul, Nat.reduceBEq, ↓reduceIte, reduceCtorEq, Int.reduceLT, Int.reduceLE, Int.reduceGT, Int.reduceGE, Int.reduceBEq, Int.reduceBNe, Int.reduceEq, Int.reduceNe, Int.reduceAdd, Int.reduceSub, Int.reduceMul, Int.reduceNeg, Int.reduceToNat]
theorem plus_eq (a b : Res) : v20 [.d a.d, .d b.d] [] = some (.d (a.add b).d, []) := by
  have h1 := of_eq a
  have h2 := of_eq b
  have h3 := vplus_eq a b
  have h4 := res_eq (a.add b)
  generalize a.add b = c at *
  simp only [Res.d] at h1 h2 h3 h4
  simp only [u20, Try.f20, u45, Try.f45, Res.d, h1, h2, h3, h4, sm, tys, Nat.reduceAdd, Nat.reduceSub, Nat.reduceEqDiff, Nat.reduceLeDiff, Nat.reduceLT, Nat.reduceMul, Nat.reduceBEq, ↓reduceIte, reduceCtorEq, Int.reduceLT, Int.reduceLE, Int.reduceGT, Int.reduceGE, Int.reduceBEq, Int.reduceBNe, Int.reduceEq, Int.reduceNe, Int.reduceAdd, Int.reduceSub, Int.reduceMul, Int.reduceNeg, Int.reduceToNat]
theorem minus_eq (a b : Res) : v36 [.d a.d, .d b.d] [] = some (.d (a.sub b).d, []) := by
  have h1 := of_eq a
  have h2 := of_eq b
  have h3 := vminus_eq a b
  have h4 := res_eq (a.sub b)
  generalize a.sub b = c at *
  simp only [Res.d] at h1 h2 h3 h4
  simp only [u36, Try.f36, u45, Try.f45, Res.d, h1, h2, h3, h4, sm, tys, Nat.reduceAdd, Nat.reduceSub, Nat.reduceEqDiff, Nat.reduceLeDiff, Nat.reduceLT, Nat.reduceMul, Nat.reduceBEq, ↓reduceIte, reduceCtorEq, Int.reduceLT, Int.reduceLE, Int.reduceGT, Int.reduceGE, Int.reduceBEq, Int.reduceBNe, Int.reduceEq, Int.reduceNe, Int.reduceAdd, Int.reduceSub, Int.reduceMul, Int.reduceNeg, Int.reduceToNat]
end Go.Wm.Try1
namespace Go.Wm.Try1
open Go Go.Wm Go.Proofs
/-- an order of texts, or of numbers -/
structure Ord (α : Type) where
  lt : α → α → Bool
  irr : ∀ a, lt a a = false
  trans : ∀ a b c, lt a b = true → lt b c = true → lt a c = true
  tot : ∀ a b, lt a b = false → lt b a = false → a = b
def Rising {α} (o : Ord α) (l : List α) : Prop := l.Pairwise fun a b => o.lt a b = true
/-- where it goes -/
def placeOf {α} (o : Ord α) (l : List α) (x : α) : Nat := (l.takeWhile fun y => o.lt y x).length
theorem placeOf_le {α} (o : Ord α) (l : List α) (x : α) : placeOf o l x ≤ l.length := by
  unfold placeOf
  exact List.Sublist.length_le (List.takeWhile_sublist _)
theorem placeOf_lt {α} (o : Ord α) : ∀ (l : List α) (x : α) (i : Nat) (y : α), i < placeOf o l x → l[i]? = some y → o.lt y x = true
  | [], x, i, y, h, _ => by simp [placeOf] at h
  | a :: r, x, i, y, h, hy => by
    unfold placeOf at h
    rw [List.takeWhile_cons] at h
    split at h
    · rename_i ha
      cases i with
      | zero => simp at hy; subst hy; exact ha
      | succ i =>
        simp only [List.length_cons] at h
        exact placeOf_lt o r x i y (by unfold placeOf; omega) (by simpa using hy)
    · simp at h
theorem placeOf_ge {α} (o : Ord α) : ∀ (l : List α) (x : α) (i : Nat) (y : α), Rising o l → placeOf o l x ≤ i → l[i]? = some y → o.lt y x = false
  | [], x, i, y, _, _, h => by simp at h
  | a :: r, x, i, y, hr, h, hy => by
    obtain ⟨h1, h2⟩ := List.pairwise_cons.1 hr
    unfold placeOf at h
    rw [List.takeWhile_cons] at h
    split at h
    · rename_i ha
      cases i with
      | zero => simp at h
      | succ i =>
        simp only [List.length_cons] at h
        exact placeOf_ge o r x i y h2 (by unfold placeOf; omega) (by simpa using hy)
    · rename_i ha
      cases hl : o.lt y x with
      | false => rfl
      | true =>
        cases i with
        | zero => simp at hy; subst hy; exact absurd hl ha
        | succ i =>
          have hm : y ∈ r := List.mem_of_getElem? (by simpa using hy : r[i]? = some y)
          exact absurd (o.trans _ _ _ (h1 y hm) hl) ha
/-- a place is found by halves -/
theorem place_uniq {α} (o : Ord α) (l : List α) (x : α) (k : Nat) (hk : k ≤ l.length) (h1 : ∀ i y, i < k → l[i]? = some y → o.lt y x = true) (h2 : ∀ i y, k ≤ i → l[i]? = some y → o.lt y x = false) : k = placeOf o l x := by
  rcases Nat.lt_trichotomy k (placeOf o l x) with h | h | h
  · have hlt : k < l.length := by have := placeOf_le o l x; omega
    have e : l[k]? = some l[k] := by simp [hlt]
    have := placeOf_lt o l x k _ h e
    rw [h2 k _ (Nat.le_refl _) e] at this
    cases this
  · exact h
  · have hlt : placeOf o l x < l.length := by omega
    have e : l[placeOf o l x]? = some l[placeOf o l x] := by simp [hlt]
    have h3 := h1 _ _ h e
    have h4 : o.lt l[placeOf o l x] x = false := by
      have : ∀ (l : List α) (h : placeOf o l x < l.length), o.lt (l[placeOf o l x]) x = false := by
        intro l
        induction l with
        | nil => intro h; simp at h
        | cons a r ih =>
          intro h
          unfold placeOf at h ⊢
          simp only [List.takeWhile_cons] at h ⊢
          by_cases ha : o.lt a x = true
          · simp only [ha, if_true, List.length_cons, List.getElem_cons_succ] at h ⊢
            exact ih (by unfold placeOf; simpa using h)
          · simp only [ha, if_false, Bool.false_eq_true, List.length_nil, List.getElem_cons_zero]
      exact this l hlt
    rw [h4] at h3
    cases h3
/-- put into a rising list, each once -/
def putO {α} [DecidableEq α] (o : Ord α) (l : List α) (x : α) : List α :=
  if l[placeOf o l x]? = some x then l else l.take (placeOf o l x) ++ x :: l.drop (placeOf o l x)
theorem bytesLess_irr : ∀ a, Op.bytesLess a a = false
  | [] => rfl
  | a :: r => by simp [Op.bytesLess, bytesLess_irr r]
theorem bytesLess_trans : ∀ a b c, Op.bytesLess a b = true → Op.bytesLess b c = true → Op.bytesLess a c = true
  | _, [], _, h, _ => by cases ‹List UInt8› <;> simp [Op.bytesLess] at h
  | _, _ :: _, [], _, h => by simp [Op.bytesLess] at h
  | [], _ :: _, _ :: _, _, _ => rfl
  | a :: x, b :: y, c :: z, h1, h2 => by
    simp only [Op.bytesLess, Bool.or_eq_true, decide_eq_true_eq, Bool.and_eq_true, beq_iff_eq] at h1 h2 ⊢
    rcases h1 with h1 | ⟨rfl, h1⟩
    · rcases h2 with h2 | ⟨rfl, h2⟩
      · exact .inl (UInt8.lt_trans h1 h2)
      · exact .inl h1
    · rcases h2 with h2 | ⟨rfl, h2⟩
      · exact .inl h2
      · exact .inr ⟨rfl, bytesLess_trans x y z h1 h2⟩
theorem bytesLess_tot : ∀ a b, Op.bytesLess a b = false → Op.bytesLess b a = false → a = b
  | [], [], _, _ => rfl
  | [], _ :: _, h, _ => by simp [Op.bytesLess] at h
  | _ :: _, [], _, h => by simp [Op.bytesLess] at h
  | a :: x, b :: y, h1, h2 => by
    simp only [Op.bytesLess, Bool.or_eq_false_iff, decide_eq_false_iff_not, Bool.and_eq_false_iff, beq_eq_false_iff_ne] at h1 h2
    have hab : a = b := by
      have q1 := h1.1
      have q2 := h2.1
      rw [UInt8.not_lt] at q1 q2
      exact UInt8.le_antisymm q2 q1
    subst hab
    rw [bytesLess_tot x y (by rcases h1.2 with h | h; exact absurd rfl h; exact h) (by rcases h2.2 with h | h; exact absurd rfl h; exact h)]
def ordS : Ord Str := ⟨Op.bytesLess, bytesLess_irr, bytesLess_trans, bytesLess_tot⟩
def ordI : Ord Int := ⟨fun a b => decide (a < b), fun a => by simp, fun a b c h1 h2 => by simp at *; omega, fun a b h1 h2 => by simp at *; omega⟩
theorem less_ordS (a b : Str) : v74 [.d (strD a), .d (strD b)] [] = some (.d (.bool (ordS.lt a b)), []) := by
  simp only [u74, Try.f74, u78, Try.f78, strD, ordS, sm, tys, Nat.reduceAdd, Nat.reduceSub, Nat.reduceEqDiff, Nat.reduceLeDiff, Nat.reduceLT, Nat.reduceMul, Nat.reduceBEq, ↓reduceIte, reduceCtorEq, Int.reduceLT, Int.reduceLE, Int.reduceGT, Int.reduceGE, Int.reduceBEq, Int.reduceBNe, Int.reduceEq, Int.reduceNe, Int.reduceAdd, Int.reduceSub, Int.reduceMul, Int.reduceNeg, Int.reduceToNat]
set_option maxHeartbeats 1000000 in
theorem bs_loop_ordS {b : Code} (hb : b = bodyAt Try.f69 3) (l : List Str) (hl : Small l) (hr : Rising ordS l) (x : Str) : ∀ (fuel i j : Nat), j - i ≤ fuel → i ≤ j → j ≤ l.length → 
    (∀ k y, k < i → l[k]? = some y → ordS.lt y x = true) → (∀ k y, j ≤ k → l[k]? = some y → ordS.lt y x = false) →
    evLoop E69 0 b [(0, .d (.sl (l.map strD))), (1, .d (strD x)), (6, .d (.int .i64 (l.length))), (7, .d (.int .i64 ((i : Int)))), (8, .d (.int .i64 ((j : Int))))] [] = some ([(0, .d (.sl (l.map strD))), (1, .d (strD x)), (6, .d (.int .i64 (l.length))), (7, .d (.int .i64 ((placeOf ordS l x : Nat)))), (8, .d (.int .i64 ((placeOf ordS l x : Nat)))), (15, .d (.bool false))], [], .exit 0) := by
  simp only [bodyAt, bodyOf, loop_seq, loop_cond, loop_block, loop_loop, loop_region, loop_skip, loop_ret, loop_exit, orE_some, orE_none, Code.first, Option.getD_some, Nat.reduceEqDiff, ↓reduceIte, Try.f69] at hb
  subst hb
  unfold Small at hl
  intro fuel
  induction fuel with
  | zero =>
    intro i j hf hij hj h1 h2
    have e : i = j := by omega
    subst e
    have hp := place_uniq ordS l x i hj h1 h2
    rw [← hp, c_round]
    simp only [u69, Try.f69, Int.lt_irrefl, sm, tys, Nat.reduceAdd, Nat.reduceSub, Nat.reduceEqDiff, Nat.reduceLeDiff, Nat.reduceLT, Nat.reduceMul, Nat.reduceBEq, ↓reduceIte, reduceCtorEq, Int.reduceLT, Int.reduceLE, Int.reduceGT, Int.reduceGE, Int.reduceBEq, Int.reduceBNe, Int.reduceEq, Int.reduceNe, Int.reduceAdd, Int.reduceSub, Int.reduceMul, Int.reduceNeg, Int.reduceToNat]
  | succ fuel ih =>
    intro i j hf hij hj h1 h2
    by_cases hlt : i < j
    · have hlt' : (i : Int) < (j : Int) := by omega
      have hm : (i + j) / 2 < l.length := by omega
      have hci : l[(i + j) / 2]? = some l[(i + j) / 2] := by simp [hm]
      have hw1 : IntKind.i64.wrap ((i : Int) + (j : Int)) = (i : Int) + j := wrap_i64 (by omega) (by omega)
      have hw2 : IntKind.u64.wrap ((i : Int) + (j : Int)) = (i : Int) + j := wrap_u64 (by omega) (by omega)
      have hsh : ((i : Int) + (j : Int)).fdiv (2 ^ min 1 IntKind.u64.bits) = (((i + j) / 2 : Nat) : Int) := by
        have : (2 : Int) ^ min 1 IntKind.u64.bits = 2 := rfl
        rw [this, Int.fdiv_eq_ediv_of_nonneg _ (by decide)]
        omega
      have hw3 : IntKind.i64.wrap (((i + j) / 2 : Nat) : Int) = (((i + j) / 2 : Nat) : Int) := wrap_i64 (by omega) (by omega)
      have h0 : (0 : Int) ≤ (((i + j) / 2 : Nat) : Int) := by omega
      have hm' : (((i + j) / 2 : Nat) : Int) < (l.length : Int) := by omega
      generalize hq : (i + j) / 2 = m at *
      have hless := less_ordS l[m] x
      have hce : ∀ y : Str, (strD y).cells = [strD y] := fun _ => rfl
      have hmid : ∀ k y, l[k]? = some y → k < m → ordS.lt l[m] x = true → ordS.lt y x = true := fun k y hk hkm hx => by
        have hkl : k < l.length := by omega
        have hy : y = l[k] := by simp [hkl] at hk; exact hk.symm
        subst hy
        exact ordS.trans _ _ _ (List.pairwise_iff_getElem.1 hr k m hkl hm hkm) hx
      have hmid2 : ∀ k y, l[k]? = some y → m ≤ k → ordS.lt l[m] x = false → ordS.lt y x = false := fun k y hk hkm hx => by
        have hkl : k < l.length := (List.getElem?_eq_some_iff.1 hk).1
        have hy : y = l[k] := by simp [hkl] at hk; exact hk.symm
        subst hy
        rcases Nat.eq_or_lt_of_le hkm with e | e
        · subst e; exact hx
        · cases hc : ordS.lt l[k] x with
          | false => rfl
          | true =>
            have := ordS.trans _ _ _ (List.pairwise_iff_getElem.1 hr m k hm hkl e) hc
            rw [hx] at this
            cases this
      rw [c_round]
      cases hx : ordS.lt l[m] x with
      | true =>
        have hw4 : IntKind.i64.wrap ((m : Int) + 1) = ((m + 1 : Nat) : Int) := by rw [wrap_i64 (by omega) (by omega)]; omega
        rw [← ih (m + 1) j (by omega) (by omega) hj (fun k y hk hy => by
          rcases Nat.lt_or_ge k m with h | h
          · exact hmid k y hy h hx
          · have : k = m := by omega
            subst this
            rw [hci] at hy
            cases hy
            exact hx) h2]
        rw [hx] at hless
        simp only [u69, Try.f69, hlt', hci, hw1, hw2, hsh, hw3, hw4, h0, hm', hless, hce, sm, tys, Nat.reduceAdd, Nat.reduceSub, Nat.reduceEqDiff, Nat.reduceLeDiff, Nat.reduceLT, Nat.reduceMul, Nat.reduceBEq, ↓reduceIte, reduceCtorEq, Int.reduceLT, Int.reduceLE, Int.reduceGT, Int.reduceGE, Int.reduceBEq, Int.reduceBNe, Int.reduceEq, Int.reduceNe, Int.reduceAdd, Int.reduceSub, Int.reduceMul, Int.reduceNeg, Int.reduceToNat]
      | false =>
        rw [← ih i m (by omega) (by omega) (by omega) h1 (fun k y hk hy => hmid2 k y hy hk hx)]
        rw [hx] at hless
        simp only [u69, Try.f69, hlt', hci, hw1, hw2, hsh, hw3, h0, hm', hless, hce, sm, tys, Nat.reduceAdd, Nat.reduceSub, Nat.reduceEqDiff, Nat.reduceLeDiff, Nat.reduceLT, Nat.reduceMul, Nat.reduceBEq, ↓reduceIte, reduceCtorEq, Int.reduceLT, Int.reduceLE, Int.reduceGT, Int.reduceGE, Int.reduceBEq, Int.reduceBNe, Int.reduceEq, Int.reduceNe, Int.reduceAdd, Int.reduceSub, Int.reduceMul, Int.reduceNeg, Int.reduceToNat]
    · have e : i = j := by omega
      subst e
      have hp := place_uniq ordS l x i hj h1 h2
      rw [← hp, c_round]
      simp only [u69, Try.f69, Int.lt_irrefl, sm, tys, Nat.reduceAdd, Nat.reduceSub, Nat.reduceEqDiff, Nat.reduceLeDiff, Nat.reduceLT, Nat.reduceMul, Nat.reduceBEq, ↓reduceIte, reduceCtorEq, Int.reduceLT, Int.reduceLE, Int.reduceGT, Int.reduceGE, Int.reduceBEq, Int.reduceBNe, Int.reduceEq, Int.reduceNe, Int.reduceAdd, Int.reduceSub, Int.reduceMul, Int.reduceNeg, Int.reduceToNat]
theorem bs_ordS (l : List Str) (hl : Small l) (hr : Rising ordS l) (x : Str) : v69 [.d (.sl (l.map strD)), .d (strD x)] [] = some (.tup [.d (.int .i64 ((placeOf ordS l x : Nat))), .d (.bool (decide (l[placeOf ordS l x]? = some x)))], []) := by
  have hloop := bs_loop_ordS (b := bodyAt Try.f69 3) rfl l hl hr x l.length 0 l.length (by omega) (by omega) (Nat.le_refl _) (fun k y hk => by omega) (fun k y hk hy => by rw [List.getElem?_eq_none hk] at hy; cases hy)
  simp only [bodyAt, bodyOf, loop_seq, loop_cond, loop_block, loop_loop, loop_region, loop_skip, loop_ret, loop_exit, orE_some, orE_none, Code.first, Option.getD_some, Nat.reduceEqDiff, ↓reduceIte, Try.f69] at hloop
  simp only [Int.cast_ofNat_Int] at hloop
  have hle := placeOf_le ordS l x
  generalize hp : placeOf ordS l x = k at *
  have h0 : (0 : Int) ≤ (k : Int) := by omega
  by_cases hk : k < l.length
  · have hk' : (k : Int) < (l.length : Int) := by omega
    have hci : l[k]? = some l[k] := by simp [hk]
    rw [hci]
    generalize l[k] = y at *
    by_cases e : y = x
    · subst e
      simp only [strD] at hloop
      simp only [u69, Try.f69, strD, hloop, h0, hk', hci, sm, tys, Nat.reduceAdd, Nat.reduceSub, Nat.reduceEqDiff, Nat.reduceLeDiff, Nat.reduceLT, Nat.reduceMul, Nat.reduceBEq, ↓reduceIte, reduceCtorEq, Int.reduceLT, Int.reduceLE, Int.reduceGT, Int.reduceGE, Int.reduceBEq, Int.reduceBNe, Int.reduceEq, Int.reduceNe, Int.reduceAdd, Int.reduceSub, Int.reduceMul, Int.reduceNeg, Int.reduceToNat]
    · simp only [strD] at hloop
      simp only [u69, Try.f69, u75, Try.f75, strD, hloop, h0, hk', hci, e, sm, tys, Nat.reduceAdd, Nat.reduceSub, Nat.reduceEqDiff, Nat.reduceLeDiff, Nat.reduceLT, Nat.reduceMul, Nat.reduceBEq, ↓reduceIte, reduceCtorEq, Int.reduceLT, Int.reduceLE, Int.reduceGT, Int.reduceGE, Int.reduceBEq, Int.reduceBNe, Int.reduceEq, Int.reduceNe, Int.reduceAdd, Int.reduceSub, Int.reduceMul, Int.reduceNeg, Int.reduceToNat]
  · have hk' : ¬ (k : Int) < (l.length : Int) := by omega
    have hci : l[k]? = none := by rw [List.getElem?_eq_none]; omega
    rw [hci]
    simp only [strD] at hloop
    simp only [u69, Try.f69, strD, hloop, h0, hk', sm, tys, Nat.reduceAdd, Nat.reduceSub, Nat.reduceEqDiff, Nat.reduceLeDiff, Nat.reduceLT, Nat.reduceMul, Nat.reduceBEq, ↓reduceIte, reduceCtorEq, Int.reduceLT, Int.reduceLE, Int.reduceGT, Int.reduceGE, Int.reduceBEq, Int.reduceBNe, Int.reduceEq, Int.reduceNe, Int.reduceAdd, Int.reduceSub, Int.reduceMul, Int.reduceNeg, Int.reduceToNat]
theorem less_ordI (a b : Int) : v76 [.d (intD a), .d (intD b)] [] = some (.d (.bool (ordI.lt a b)), []) := by
  simp only [u76, Try.f76, u79, Try.f79, intD, ordI, sm, tys, Nat.reduceAdd, Nat.reduceSub, Nat.reduceEqDiff, Nat.reduceLeDiff, Nat.reduceLT, Nat.reduceMul, Nat.reduceBEq, ↓reduceIte, reduceCtorEq, Int.reduceLT, Int.reduceLE, Int.reduceGT, Int.reduceGE, Int.reduceBEq, Int.reduceBNe, Int.reduceEq, Int.reduceNe, Int.reduceAdd, Int.reduceSub, Int.reduceMul, Int.reduceNeg, Int.reduceToNat]
set_option maxHeartbeats 1000000 in
theorem bs_loop_ordI {b : Code} (hb : b = bodyAt Try.f70 3) (l : List Int) (hl : Small l) (hr : Rising ordI l) (x : Int) : ∀ (fuel i j : Nat), j - i ≤ fuel → i ≤ j → j ≤ l.length → 
    (∀ k y, k < i → l[k]? = some y → ordI.lt y x = true) → (∀ k y, j ≤ k → l[k]? = some y → ordI.lt y x = false) →
    evLoop E70 0 b [(0, .d (.sl (l.map intD))), (1, .d (intD x)), (6, .d (.int .i64 (l.length))), (7, .d (.int .i64 ((i : Int)))), (8, .d (.int .i64 ((j : Int))))] [] = some ([(0, .d (.sl (l.map intD))), (1, .d (intD x)), (6, .d (.int .i64 (l.length))), (7, .d (.int .i64 ((placeOf ordI l x : Nat)))), (8, .d (.int .i64 ((placeOf ordI l x : Nat)))), (15, .d (.bool false))], [], .exit 0) := by
  simp only [bodyAt, bodyOf, loop_seq, loop_cond, loop_block, loop_loop, loop_region, loop_skip, loop_ret, loop_exit, orE_some, orE_none, Code.first, Option.getD_some, Nat.reduceEqDiff, ↓reduceIte, Try.f70] at hb
  subst hb
  unfold Small at hl
  intro fuel
  induction fuel with
  | zero =>
    intro i j hf hij hj h1 h2
    have e : i = j := by omega
    subst e
    have hp := place_uniq ordI l x i hj h1 h2
    rw [← hp, c_round]
    simp only [u70, Try.f70, Int.lt_irrefl, sm, tys, Nat.reduceAdd, Nat.reduceSub, Nat.reduceEqDiff, Nat.reduceLeDiff, Nat.reduceLT, Nat.reduceMul, Nat.reduceBEq, ↓reduceIte, reduceCtorEq, Int.reduceLT, Int.reduceLE, Int.reduceGT, Int.reduceGE, Int.reduceBEq, Int.reduceBNe, Int.reduceEq, Int.reduceNe, Int.reduceAdd, Int.reduceSub, Int.reduceMul, Int.reduceNeg, Int.reduceToNat]
  | succ fuel ih =>
    intro i j hf hij hj h1 h2
    by_cases hlt : i < j
    · have hlt' : (i : Int) < (j : Int) := by omega
      have hm : (i + j) / 2 < l.length := by omega
      have hci : l[(i + j) / 2]? = some l[(i + j) / 2] := by simp [hm]
      have hw1 : IntKind.i64.wrap ((i : Int) + (j : Int)) = (i : Int) + j := wrap_i64 (by omega) (by omega)
      have hw2 : IntKind.u64.wrap ((i : Int) + (j : Int)) = (i : Int) + j := wrap_u64 (by omega) (by omega)
      have hsh : ((i : Int) + (j : Int)).fdiv (2 ^ min 1 IntKind.u64.bits) = (((i + j) / 2 : Nat) : Int) := by
        have : (2 : Int) ^ min 1 IntKind.u64.bits = 2 := rfl
        rw [this, Int.fdiv_eq_ediv_of_nonneg _ (by decide)]
        omega
      have hw3 : IntKind.i64.wrap (((i + j) / 2 : Nat) : Int) = (((i + j) / 2 : Nat) : Int) := wrap_i64 (by omega) (by omega)
      have h0 : (0 : Int) ≤ (((i + j) / 2 : Nat) : Int) := by omega
      have hm' : (((i + j) / 2 : Nat) : Int) < (l.length : Int) := by omega
      generalize hq : (i + j) / 2 = m at *
      have hless := less_ordI l[m] x
      have hce : ∀ y : Int, (intD y).cells = [intD y] := fun _ => rfl
      have hmid : ∀ k y, l[k]? = some y → k < m → ordI.lt l[m] x = true → ordI.lt y x = true := fun k y hk hkm hx => by
        have hkl : k < l.length := by omega
        have hy : y = l[k] := by simp [hkl] at hk; exact hk.symm
        subst hy
        exact ordI.trans _ _ _ (List.pairwise_iff_getElem.1 hr k m hkl hm hkm) hx
      have hmid2 : ∀ k y, l[k]? = some y → m ≤ k → ordI.lt l[m] x = false → ordI.lt y x = false := fun k y hk hkm hx => by
        have hkl : k < l.length := (List.getElem?_eq_some_iff.1 hk).1
        have hy : y = l[k] := by simp [hkl] at hk; exact hk.symm
        subst hy
        rcases Nat.eq_or_lt_of_le hkm with e | e
        · subst e; exact hx
        · cases hc : ordI.lt l[k] x with
          | false => rfl
          | true =>
            have := ordI.trans _ _ _ (List.pairwise_iff_getElem.1 hr m k hm hkl e) hc
            rw [hx] at this
            cases this
      rw [c_round]
      cases hx : ordI.lt l[m] x with
      | true =>
        have hw4 : IntKind.i64.wrap ((m : Int) + 1) = ((m + 1 : Nat) : Int) := by rw [wrap_i64 (by omega) (by omega)]; omega
        rw [← ih (m + 1) j (by omega) (by omega) hj (fun k y hk hy => by
          rcases Nat.lt_or_ge k m with h | h
          · exact hmid k y hy h hx
          · have : k = m := by omega
            subst this
            rw [hci] at hy
            cases hy
            exact hx) h2]
        rw [hx] at hless
        simp only [u70, Try.f70, hlt', hci, hw1, hw2, hsh, hw3, hw4, h0, hm', hless, hce, sm, tys, Nat.reduceAdd, Nat.reduceSub, Nat.reduceEqDiff, Nat.reduceLeDiff, Nat.reduceLT, Nat.reduceMul, Nat.reduceBEq, ↓reduceIte, reduceCtorEq, Int.reduceLT, Int.reduceLE, Int.reduceGT, Int.reduceGE, Int.reduceBEq, Int.reduceBNe, Int.reduceEq, Int.reduceNe, Int.reduceAdd, Int.reduceSub, Int.reduceMul, Int.reduceNeg, Int.reduceToNat]
      | false =>
        rw [← ih i m (by omega) (by omega) (by omega) h1 (fun k y hk hy => hmid2 k y hy hk hx)]
        rw [hx] at hless
        simp only [u70, Try.f70, hlt', hci, hw1, hw2, hsh, hw3, h0, hm', hless, hce, sm, tys, Nat.reduceAdd, Nat.reduceSub, Nat.reduceEqDiff, Nat.reduceLeDiff, Nat.reduceLT, Nat.reduceMul, Nat.reduceBEq, ↓reduceIte, reduceCtorEq, Int.reduceLT, Int.reduceLE, Int.reduceGT, Int.reduceGE, Int.reduceBEq, Int.reduceBNe, Int.reduceEq, Int.reduceNe, Int.reduceAdd, Int.reduceSub, Int.reduceMul, Int.reduceNeg, Int.reduceToNat]
    · have e : i = j := by omega
      subst e
      have hp := place_uniq ordI l x i hj h1 h2
      rw [← hp, c_round]
      simp only [u70, Try.f70, Int.lt_irrefl, sm, tys, Nat.reduceAdd, Nat.reduceSub, Nat.reduceEqDiff, Nat.reduceLeDiff, Nat.reduceLT, Nat.reduceMul, Nat.reduceBEq, ↓reduceIte, reduceCtorEq, Int.reduceLT, Int.reduceLE, Int.reduceGT, Int.reduceGE, Int.reduceBEq, Int.reduceBNe, Int.reduceEq, Int.reduceNe, Int.reduceAdd, Int.reduceSub, Int.reduceMul, Int.reduceNeg, Int.reduceToNat]
theorem bs_ordI (l : List Int) (hl : Small l) (hr : Rising ordI l) (x : Int) : v70 [.d (.sl (l.map intD)), .d (intD x)] [] = some (.tup [.d (.int .i64 ((placeOf ordI l x : Nat))), .d (.bool (decide (l[placeOf ordI l x]? = some x)))], []) := by
  have hloop := bs_loop_ordI (b := bodyAt Try.f70 3) rfl l hl hr x l.length 0 l.length (by omega) (by omega) (Nat.le_refl _) (fun k y hk => by omega) (fun k y hk hy => by rw [List.getElem?_eq_none hk] at hy; cases hy)
  simp only [bodyAt, bodyOf, loop_seq, loop_cond, loop_block, loop_loop, loop_region, loop_skip, loop_ret, loop_exit, orE_some, orE_none, Code.first, Option.getD_some, Nat.reduceEqDiff, ↓reduceIte, Try.f70] at hloop
  simp only [Int.cast_ofNat_Int] at hloop
  have hle := placeOf_le ordI l x
  generalize hp : placeOf ordI l x = k at *
  have h0 : (0 : Int) ≤ (k : Int) := by omega
  by_cases hk : k < l.length
  · have hk' : (k : Int) < (l.length : Int) := by omega
    have hci : l[k]? = some l[k] := by simp [hk]
    rw [hci]
    generalize l[k] = y at *
    by_cases e : y = x
    · subst e
      simp only [intD] at hloop
      simp only [u70, Try.f70, intD, hloop, h0, hk', hci, sm, tys, Nat.reduceAdd, Nat.reduceSub, Nat.reduceEqDiff, Nat.reduceLeDiff, Nat.reduceLT, Nat.reduceMul, Nat.reduceBEq, ↓reduceIte, reduceCtorEq, Int.reduceLT, Int.reduceLE, Int.reduceGT, Int.reduceGE, Int.reduceBEq, Int.reduceBNe, Int.reduceEq, Int.reduceNe, Int.reduceAdd, Int.reduceSub, Int.reduceMul, Int.reduceNeg, Int.reduceToNat]
    · simp only [intD] at hloop
      simp only [u70, Try.f70, u77, Try.f77, intD, hloop, h0, hk', hci, e, sm, tys, Nat.reduceAdd, Nat.reduceSub, Nat.reduceEqDiff, Nat.reduceLeDiff, Nat.reduceLT, Nat.reduceMul, Nat.reduceBEq, ↓reduceIte, reduceCtorEq, Int.reduceLT, Int.reduceLE, Int.reduceGT, Int.reduceGE, Int.reduceBEq, Int.reduceBNe, Int.reduceEq, Int.reduceNe, Int.reduceAdd, Int.reduceSub, Int.reduceMul, Int.reduceNeg, Int.reduceToNat]
  · have hk' : ¬ (k : Int) < (l.length : Int) := by omega
    have hci : l[k]? = none := by rw [List.getElem?_eq_none]; omega
    rw [hci]
    simp only [intD] at hloop
    simp only [u70, Try.f70, intD, hloop, h0, hk', sm, tys, Nat.reduceAdd, Nat.reduceSub, Nat.reduceEqDiff, Nat.reduceLeDiff, Nat.reduceLT, Nat.reduceMul, Nat.reduceBEq, ↓reduceIte, reduceCtorEq, Int.reduceLT, Int.reduceLE, Int.reduceGT, Int.reduceGE, Int.reduceBEq, Int.reduceBNe, Int.reduceEq, Int.reduceNe, Int.reduceAdd, Int.reduceSub, Int.reduceMul, Int.reduceNeg, Int.reduceToNat]
end Go.Wm.Try1
namespace Go.Wm.Try1
open Go Go.Wm Go.Proofs
set_option maxHeartbeats 1000000 in
theorem put_ordS (l : List Str) (hl : Small l) (hr : Rising ordS l) (x : Str) : v56 [.sl 0 0 l.length, .d (D.str x)] [.row 9 1 (l.map strD)] = some (.sl 1 0 (putO ordS l x).length, [.gone, .row 9 1 ((putO ordS l x).map strD)]) := by
  have hb : v69 [.d (.sl (l.map strD)), .d (D.str x)] [] = _ := bs_ordS l hl hr x
  have hle := placeOf_le ordS l x
  have ht := List.take_length (l := l.map strD)
  simp only [List.length_map] at ht
  unfold putO
  generalize placeOf ordS l x = k at *
  unfold Small at hl
  have h0 : (0 : Int) ≤ (k : Int) := by omega
  have hk : (k : Int) ≤ (l.length : Int) := by omega
  by_cases h : l[k]? = some x
  · simp only [h, decide_true] at hb
    rw [if_pos h]
    simp only [u56, Try.f56, ht, hb, sm, tys, Nat.reduceAdd, Nat.reduceSub, Nat.reduceEqDiff, Nat.reduceLeDiff, Nat.reduceLT, Nat.reduceMul, Nat.reduceBEq, ↓reduceIte, reduceCtorEq, Int.reduceLT, Int.reduceLE, Int.reduceGT, Int.reduceGE, Int.reduceBEq, Int.reduceBNe, Int.reduceEq, Int.reduceNe, Int.reduceAdd, Int.reduceSub, Int.reduceMul, Int.reduceNeg, Int.reduceToNat]
  · simp only [h, decide_false] at hb
    rw [if_neg h]
    have e1 : List.take (k - 0) (l.map strD) = (l.take k).map strD := by rw [Nat.sub_zero, List.map_take]
    have e2 : List.take (l.length - k) (List.drop k (l.map strD)) = (l.drop k).map strD := by
      rw [List.take_of_length_le (by simp), List.map_drop]
    have a1 := all_strD (l.take k)
    have a2 := all_strD (l.drop k)
    have l1 : (l.take k).length ≤ 2147483647 := by simp; omega
    have l2 : ((l.take k).map strD ++ [D.str x]).length + ((l.drop k).map strD).length ≤ 2147483648 := by simp; omega
    have l3 : ((l.take k).map strD ++ [D.str x]).length + ((l.drop k).map strD).length = (l.take k ++ x :: l.drop k).length := by simp; omega
    have l4 : (l.take k).map strD ++ [D.str x] ++ (l.drop k).map strD = (l.take k ++ x :: l.drop k).map strD := by simp [strD]
    rw [List.length_map] at l2 l3
    rw [l3] at l2
    have hll : (l.length : Int) ≤ l.length := Int.le_refl _
    simp only [u56, Try.f56, ht, hb, h0, hk, e1, e2, a1, a2, l1, l2, l3, l4, hll, sm, tys, Nat.reduceAdd, Nat.reduceSub, Nat.reduceEqDiff, Nat.reduceLeDiff, Nat.reduceLT, Nat.reduceMul, Nat.reduceBEq, ↓reduceIte, reduceCtorEq, Int.reduceLT, Int.reduceLE, Int.reduceGT, Int.reduceGE, Int.reduceBEq, Int.reduceBNe, Int.reduceEq, Int.reduceNe, Int.reduceAdd, Int.reduceSub, Int.reduceMul, Int.reduceNeg, Int.reduceToNat]
set_option maxHeartbeats 1000000 in
theorem put_ordI (l : List Int) (hl : Small l) (hr : Rising ordI l) (x : Int) : v57 [.sl 0 0 l.length, .d (D.int .i64 x)] [.row 3 1 (l.map intD)] = some (.sl 1 0 (putO ordI l x).length, [.gone, .row 3 1 ((putO ordI l x).map intD)]) := by
  have hb : v70 [.d (.sl (l.map intD)), .d (D.int .i64 x)] [] = _ := bs_ordI l hl hr x
  have hle := placeOf_le ordI l x
  have ht := List.take_length (l := l.map intD)
  simp only [List.length_map] at ht
  unfold putO
  generalize placeOf ordI l x = k at *
  unfold Small at hl
  have h0 : (0 : Int) ≤ (k : Int) := by omega
  have hk : (k : Int) ≤ (l.length : Int) := by omega
  by_cases h : l[k]? = some x
  · simp only [h, decide_true] at hb
    rw [if_pos h]
    simp only [u57, Try.f57, ht, hb, sm, tys, Nat.reduceAdd, Nat.reduceSub, Nat.reduceEqDiff, Nat.reduceLeDiff, Nat.reduceLT, Nat.reduceMul, Nat.reduceBEq, ↓reduceIte, reduceCtorEq, Int.reduceLT, Int.reduceLE, Int.reduceGT, Int.reduceGE, Int.reduceBEq, Int.reduceBNe, Int.reduceEq, Int.reduceNe, Int.reduceAdd, Int.reduceSub, Int.reduceMul, Int.reduceNeg, Int.reduceToNat]
  · simp only [h, decide_false] at hb
    rw [if_neg h]
    have e1 : List.take (k - 0) (l.map intD) = (l.take k).map intD := by rw [Nat.sub_zero, List.map_take]
    have e2 : List.take (l.length - k) (List.drop k (l.map intD)) = (l.drop k).map intD := by
      rw [List.take_of_length_le (by simp), List.map_drop]
    have a1 := all_intD (l.take k)
    have a2 := all_intD (l.drop k)
    have l1 : (l.take k).length ≤ 2147483647 := by simp; omega
    have l2 : ((l.take k).map intD ++ [D.int .i64 x]).length + ((l.drop k).map intD).length ≤ 2147483648 := by simp; omega
    have l3 : ((l.take k).map intD ++ [D.int .i64 x]).length + ((l.drop k).map intD).length = (l.take k ++ x :: l.drop k).length := by simp; omega
    have l4 : (l.take k).map intD ++ [D.int .i64 x] ++ (l.drop k).map intD = (l.take k ++ x :: l.drop k).map intD := by simp [intD]
    rw [List.length_map] at l2 l3
    rw [l3] at l2
    have hll : (l.length : Int) ≤ l.length := Int.le_refl _
    simp only [u57, Try.f57, ht, hb, h0, hk, e1, e2, a1, a2, l1, l2, l3, l4, hll, sm, tys, Nat.reduceAdd, Nat.reduceSub, Nat.reduceEqDiff, Nat.reduceLeDiff, Nat.reduceLT, Nat.reduceMul, Nat.reduceBEq, ↓reduceIte, reduceCtorEq, Int.reduceLT, Int.reduceLE, Int.reduceGT, Int.reduceGE, Int.reduceBEq, Int.reduceBNe, Int.reduceEq, Int.reduceNe, Int.reduceAdd, Int.reduceSub, Int.reduceMul, Int.reduceNeg, Int.reduceToNat]
end Go.Wm.Try1
namespace Go.Wm.Try1
open Go Go.Wm Go.Proofs
theorem putO_le {α} [DecidableEq α] (o : Ord α) (l : List α) (x : α) : (putO o l x).length ≤ l.length + 1 := by
  unfold putO
  split
  · omega
  · have := placeOf_le o l x
    simp only [List.length_append, List.length_take, List.length_cons, List.length_drop]
    omega
theorem putO_rising {α} [DecidableEq α] (o : Ord α) (l : List α) (x : α) (h : Rising o l) : Rising o (putO o l x) := by
  unfold putO
  split
  · exact h
  · rename_i hne
    have hge : ∀ y ∈ l.drop (placeOf o l x), o.lt x y = true := by
      intro y hy
      obtain ⟨i, hi⟩ := List.getElem?_of_mem hy
      rw [List.getElem?_drop] at hi
      have h1 := placeOf_ge o l x _ y h (Nat.le_add_right _ i) hi
      cases hxy : o.lt x y with
      | true => rfl
      | false =>
        have e := o.tot _ _ h1 hxy
        subst e
        cases i with
        | zero => exact absurd hi hne
        | succ i =>
          have hlt : placeOf o l y < l.length := by have := (List.getElem?_eq_some_iff.1 hi).1; omega
          have hk : l[placeOf o l y]? = some l[placeOf o l y] := by simp [hlt]
          have h2 := placeOf_ge o l y _ _ h (Nat.le_refl _) hk
          have hij := (List.getElem?_eq_some_iff.1 hi)
          have h3 := List.pairwise_iff_getElem.1 h (placeOf o l y) (placeOf o l y + (i + 1)) hlt hij.1 (by omega)
          rw [hij.2] at h3
          rw [h2] at h3
          cases h3
    have hlt : ∀ y ∈ l.take (placeOf o l x), o.lt y x = true := by
      intro y hy
      obtain ⟨i, hi⟩ := List.getElem?_of_mem hy
      rw [List.getElem?_take] at hi
      split at hi
      · rename_i hik
        exact placeOf_lt o l x i y hik hi
      · cases hi
    unfold Rising
    rw [List.pairwise_append]
    refine ⟨List.Pairwise.sublist (List.take_sublist _ _) h, List.pairwise_cons.2 ⟨hge, List.Pairwise.sublist (List.drop_sublist _ _) h⟩, ?_⟩
    intro a ha b hb
    rcases List.mem_cons.1 hb with rfl | hb
    · exact hlt a ha
    · exact o.trans _ _ _ (hlt a ha) (hge b hb)
def putsO {α} [DecidableEq α] (o : Ord α) (l : List α) (xs : List α) : List α := xs.foldl (putO o) l
theorem putsO_le {α} [DecidableEq α] (o : Ord α) : ∀ (xs l : List α), (putsO o l xs).length ≤ l.length + xs.length
  | [], l => by simp [putsO]
  | x :: r, l => by
    have h1 := putsO_le o r (putO o l x)
    have h2 := putO_le o l x
    simp only [putsO, List.foldl_cons, List.length_cons] at h1 ⊢
    omega
theorem putsO_rising {α} [DecidableEq α] (o : Ord α) : ∀ (xs l : List α), Rising o l → Rising o (putsO o l xs)
  | [], l, h => h
  | x :: r, l, h => putsO_rising o r _ (putO_rising o l x h)
end Go.Wm.Try1
