/-
  A part of the proof: an abstract run of the program, shown to be what the model does, and what it comes to.
-/
import Derived.Test.YtmfjfejjegemaaaGreatDoorWmBx
import Derived.Test.YtmfjfejjegemaaaGreatDoorWTry
set_option linter.unusedSectionVars false
set_option linter.unnecessarySimpa false
set_option maxRecDepth 100000
set_option linter.unusedVariables false
set_option linter.unusedSimpArgs false
set_option linter.defProp false
namespace Go.Wm.Try1
open Go Go.Wm Go.Proofs
abbrev Str := List UInt8
def strD (s : Str) : D := .str s
def intD (n : Int) : D := .int .i64 n
structure Label where
  key : Str
  val : Str
def Label.d (x : Label) : D := .agg [.str x.key, .str x.val]
structure Taint where
  key : Str
  val : Str
  effect : Int
def Taint.d (x : Taint) : D := .agg [.str x.key, .str x.val, .int .i64 x.effect]
structure Bear where
  key : Str
  val : Str
  any : Bool
  effect : Int
def Bear.d (x : Bear) : D := .agg [.str x.key, .str x.val, .bool x.any, .int .i64 x.effect]
structure Req where
  key : Str
  op : Int
  vals : List Str
def Req.d (x : Req) : D := .agg [.str x.key, .int .i64 x.op, .sl (x.vals.map strD)]
structure Prefer where
  reqs : List Req
  weight : Int
def Prefer.d (x : Prefer) : D := .agg [.sl (x.reqs.map Req.d), .int .i64 x.weight]
structure Term where
  reqs : List Req
  key : Str
def Term.d (x : Term) : D := .agg [.sl (x.reqs.map Req.d), .str x.key]
structure Spread where
  key : Str
  skew : Int
  least : Int
  reqs : List Req
def Spread.d (x : Spread) : D := .agg [.str x.key, .int .i64 x.skew, .int .i64 x.least, .sl (x.reqs.map Req.d)]
structure Res where
  cpu : Int
  mem : Int
  disk : Int
def Res.d (x : Res) : D := .agg [.int .i64 x.cpu, .int .i64 x.mem, .int .i64 x.disk]
structure Pod where
  name : Str
  prio : Int
  labels : List Label
  want : Res
  bears : List Bear
  asks : List Req
  prefers : List Prefer
  ports : List Int
  near : List Term
  apart : List Term
  spreads : List Spread
  claims : List Str
  node : Str
  hope : Str
def Pod.cs (x : Pod) : List D := [.str x.name, .int .i64 x.prio, .sl (x.labels.map Label.d), .int .i64 x.want.cpu, .int .i64 x.want.mem, .int .i64 x.want.disk, .sl (x.bears.map Bear.d), .sl (x.asks.map Req.d), .sl (x.prefers.map Prefer.d), .sl (x.ports.map intD), .sl (x.near.map Term.d), .sl (x.apart.map Term.d), .sl (x.spreads.map Spread.d), .sl (x.claims.map strD), .str x.node, .str x.hope]
def Pod.d (x : Pod) : D := .agg x.cs
structure Node where
  name : Str
  labels : List Label
  taints : List Taint
  off : Bool
  give : Res
  pods : Int
  disks : Int
def Node.cs (x : Node) : List D := [.str x.name, .sl (x.labels.map Label.d), .sl (x.taints.map Taint.d), .bool x.off, .int .i64 x.give.cpu, .int .i64 x.give.mem, .int .i64 x.give.disk, .int .i64 x.pods, .int .i64 x.disks]
def Node.d (x : Node) : D := .agg x.cs
structure Info where
  node : Node
  names : List Str
  used : Res
  ports : List Int
  disks : List Str
def Info.cs (x : Info) : List D := x.node.cs ++ [.sl (x.names.map strD), .int .i64 x.used.cpu, .int .i64 x.used.mem, .int .i64 x.used.disk, .sl (x.ports.map intD), .sl (x.disks.map strD)]
def Info.d (x : Info) : D := .agg x.cs
/-- how long a list may be -/
def Small {α} (l : List α) : Prop := l.length ≤ 1073741824
def Req.ok (x : Req) : Prop := Small x.vals
def Reqs.ok (l : List Req) : Prop := Small l ∧ ∀ r ∈ l, r.ok
def Pod.ok (x : Pod) : Prop := Small x.labels ∧ Small x.bears ∧ Reqs.ok x.asks ∧ (Small x.prefers ∧ ∀ y ∈ x.prefers, Reqs.ok y.reqs) ∧ Small x.ports ∧ (Small x.near ∧ ∀ y ∈ x.near, Reqs.ok y.reqs) ∧ (Small x.apart ∧ ∀ y ∈ x.apart, Reqs.ok y.reqs) ∧ (Small x.spreads ∧ ∀ y ∈ x.spreads, Reqs.ok y.reqs) ∧ Small x.claims
def Node.ok (x : Node) : Prop := Small x.labels ∧ Small x.taints
theorem all_strD (l : List Str) : (l.map strD).all (fun x => x.cells.length == 1) = true := by
  simp only [List.all_map, List.all_eq_true]
  intro x _
  rfl
theorem all_intD (l : List Int) : (l.map intD).all (fun x => x.cells.length == 1) = true := by
  simp only [List.all_map, List.all_eq_true]
  intro x _
  rfl
theorem all_Labeld (l : List Label) : (l.map Label.d).all (fun x => x.cells.length == 2) = true := by
  simp only [List.all_map, List.all_eq_true]
  intro x _
  rfl
theorem all_Taintd (l : List Taint) : (l.map Taint.d).all (fun x => x.cells.length == 3) = true := by
  simp only [List.all_map, List.all_eq_true]
  intro x _
  rfl
theorem all_Beard (l : List Bear) : (l.map Bear.d).all (fun x => x.cells.length == 4) = true := by
  simp only [List.all_map, List.all_eq_true]
  intro x _
  rfl
theorem all_Reqd (l : List Req) : (l.map Req.d).all (fun x => x.cells.length == 3) = true := by
  simp only [List.all_map, List.all_eq_true]
  intro x _
  rfl
theorem all_Preferd (l : List Prefer) : (l.map Prefer.d).all (fun x => x.cells.length == 2) = true := by
  simp only [List.all_map, List.all_eq_true]
  intro x _
  rfl
theorem all_Termd (l : List Term) : (l.map Term.d).all (fun x => x.cells.length == 2) = true := by
  simp only [List.all_map, List.all_eq_true]
  intro x _
  rfl
theorem all_Spreadd (l : List Spread) : (l.map Spread.d).all (fun x => x.cells.length == 4) = true := by
  simp only [List.all_map, List.all_eq_true]
  intro x _
  rfl
theorem all_Podd (l : List Pod) : (l.map Pod.d).all (fun x => x.cells.length == 16) = true := by
  simp only [List.all_map, List.all_eq_true]
  intro x _
  rfl
theorem all_Noded (l : List Node) : (l.map Node.d).all (fun x => x.cells.length == 9) = true := by
  simp only [List.all_map, List.all_eq_true]
  intro x _
  rfl
set_option maxHeartbeats 1000000 in
theorem sameTexts_loop {b : Code} (hb : b = bodyAt Tryz.f62 4) (l : List Str) (hl : l.length ≤ 1073741824) : ∀ (k i : Nat), i + k = l.length →
    evLoop E62 0 b [(0, .d (.sl (l.map strD))), (1, .d (.sl (l.map strD))), (5, .d (.int .i64 ((i : Int))))] [] = some ([(0, .d (.sl (l.map strD))), (1, .d (.sl (l.map strD))), (5, .d (.int .i64 (l.length))), (14, .d (.bool false))], [], .exit 0) := by
  simp only [bodyAt, bodyOf, loop_seq, loop_cond, loop_block, loop_loop, loop_region, loop_skip, loop_ret, loop_exit, orE_some, orE_none, Code.first, Option.getD_some, Nat.reduceEqDiff, ↓reduceIte, Tryz.f62] at hb
  subst hb
  intro k
  induction k with
  | zero =>
    intro i hk
    have hi : (i : Int) = (l.length : Int) := by omega
    rw [c_round]
    simp only [u62, Tryz.f62, hi, Int.lt_irrefl, sm, tys, Nat.reduceAdd, Nat.reduceSub, Nat.reduceEqDiff, Nat.reduceLeDiff, Nat.reduceLT, Nat.reduceMul, Nat.reduceBEq, ↓reduceIte, reduceCtorEq, Int.reduceLT, Int.reduceLE, Int.reduceGT, Int.reduceGE, Int.reduceBEq, Int.reduceBNe, Int.reduceEq, Int.reduceNe, Int.reduceAdd, Int.reduceSub, Int.reduceMul, Int.reduceNeg, Int.reduceToNat]
  | succ k ih =>
    intro i hk
    have hi : (i : Int) < (l.length : Int) := by omega
    have h0 : 0 ≤ (i : Int) := by omega
    have hlt : i < l.length := by omega
    have hci : l[i]? = some l[i] := by simp [hlt]
    have hmem : l[i] ∈ l := List.getElem_mem hlt
    generalize l[i] = c at hci hmem
    have hw : IntKind.i64.wrap ((i : Int) + 1) = ((i + 1 : Nat) : Int) := by rw [wrap_i64 (by omega) (by omega)]; omega
    rw [← ih (i + 1) (by omega), c_round]
    simp only [u62, Tryz.f62, hi, h0, hci, hw, strD, sm, tys, Nat.reduceAdd, Nat.reduceSub, Nat.reduceEqDiff, Nat.reduceLeDiff, Nat.reduceLT, Nat.reduceMul, Nat.reduceBEq, ↓reduceIte, reduceCtorEq, Int.reduceLT, Int.reduceLE, Int.reduceGT, Int.reduceGE, Int.reduceBEq, Int.reduceBNe, Int.reduceEq, Int.reduceNe, Int.reduceAdd, Int.reduceSub, Int.reduceMul, Int.reduceNeg, Int.reduceToNat]
theorem sameTexts (l : List Str) (hl : l.length ≤ 1073741824) : v62 [.d (.sl (l.map strD)), .d (.sl (l.map strD))] [] = some (.d (.bool true), []) := by
  have hloop := sameTexts_loop (b := bodyAt Tryz.f62 4) rfl l hl l.length 0 (by omega)
  simp only [bodyAt, bodyOf, loop_seq, loop_cond, loop_block, loop_loop, loop_region, loop_skip, loop_ret, loop_exit, orE_some, orE_none, Code.first, Option.getD_some, Nat.reduceEqDiff, ↓reduceIte, Tryz.f62] at hloop
  simp only [Int.cast_ofNat_Int] at hloop
  simp only [u62, Tryz.f62, hloop, sm, tys, Nat.reduceAdd, Nat.reduceSub, Nat.reduceEqDiff, Nat.reduceLeDiff, Nat.reduceLT, Nat.reduceMul, Nat.reduceBEq, ↓reduceIte, reduceCtorEq, Int.reduceLT, Int.reduceLE, Int.reduceGT, Int.reduceGE, Int.reduceBEq, Int.reduceBNe, Int.reduceEq, Int.reduceNe, Int.reduceAdd, Int.reduceSub, Int.reduceMul, Int.reduceNeg, Int.reduceToNat]
set_option maxHeartbeats 1000000 in
theorem sameInts_loop {b : Code} (hb : b = bodyAt Tryz.f60 4) (l : List Int) (hl : l.length ≤ 1073741824) : ∀ (k i : Nat), i + k = l.length →
    evLoop E60 0 b [(0, .d (.sl (l.map intD))), (1, .d (.sl (l.map intD))), (5, .d (.int .i64 ((i : Int))))] [] = some ([(0, .d (.sl (l.map intD))), (1, .d (.sl (l.map intD))), (5, .d (.int .i64 (l.length))), (14, .d (.bool false))], [], .exit 0) := by
  simp only [bodyAt, bodyOf, loop_seq, loop_cond, loop_block, loop_loop, loop_region, loop_skip, loop_ret, loop_exit, orE_some, orE_none, Code.first, Option.getD_some, Nat.reduceEqDiff, ↓reduceIte, Tryz.f60] at hb
  subst hb
  intro k
  induction k with
  | zero =>
    intro i hk
    have hi : (i : Int) = (l.length : Int) := by omega
    rw [c_round]
    simp only [u60, Tryz.f60, hi, Int.lt_irrefl, sm, tys, Nat.reduceAdd, Nat.reduceSub, Nat.reduceEqDiff, Nat.reduceLeDiff, Nat.reduceLT, Nat.reduceMul, Nat.reduceBEq, ↓reduceIte, reduceCtorEq, Int.reduceLT, Int.reduceLE, Int.reduceGT, Int.reduceGE, Int.reduceBEq, Int.reduceBNe, Int.reduceEq, Int.reduceNe, Int.reduceAdd, Int.reduceSub, Int.reduceMul, Int.reduceNeg, Int.reduceToNat]
  | succ k ih =>
    intro i hk
    have hi : (i : Int) < (l.length : Int) := by omega
    have h0 : 0 ≤ (i : Int) := by omega
    have hlt : i < l.length := by omega
    have hci : l[i]? = some l[i] := by simp [hlt]
    have hmem : l[i] ∈ l := List.getElem_mem hlt
    generalize l[i] = c at hci hmem
    have hw : IntKind.i64.wrap ((i : Int) + 1) = ((i + 1 : Nat) : Int) := by rw [wrap_i64 (by omega) (by omega)]; omega
    rw [← ih (i + 1) (by omega), c_round]
    simp only [u60, Tryz.f60, hi, h0, hci, hw, intD, sm, tys, Nat.reduceAdd, Nat.reduceSub, Nat.reduceEqDiff, Nat.reduceLeDiff, Nat.reduceLT, Nat.reduceMul, Nat.reduceBEq, ↓reduceIte, reduceCtorEq, Int.reduceLT, Int.reduceLE, Int.reduceGT, Int.reduceGE, Int.reduceBEq, Int.reduceBNe, Int.reduceEq, Int.reduceNe, Int.reduceAdd, Int.reduceSub, Int.reduceMul, Int.reduceNeg, Int.reduceToNat]
theorem sameInts (l : List Int) (hl : l.length ≤ 1073741824) : v60 [.d (.sl (l.map intD)), .d (.sl (l.map intD))] [] = some (.d (.bool true), []) := by
  have hloop := sameInts_loop (b := bodyAt Tryz.f60 4) rfl l hl l.length 0 (by omega)
  simp only [bodyAt, bodyOf, loop_seq, loop_cond, loop_block, loop_loop, loop_region, loop_skip, loop_ret, loop_exit, orE_some, orE_none, Code.first, Option.getD_some, Nat.reduceEqDiff, ↓reduceIte, Tryz.f60] at hloop
  simp only [Int.cast_ofNat_Int] at hloop
  simp only [u60, Tryz.f60, hloop, sm, tys, Nat.reduceAdd, Nat.reduceSub, Nat.reduceEqDiff, Nat.reduceLeDiff, Nat.reduceLT, Nat.reduceMul, Nat.reduceBEq, ↓reduceIte, reduceCtorEq, Int.reduceLT, Int.reduceLE, Int.reduceGT, Int.reduceGE, Int.reduceBEq, Int.reduceBNe, Int.reduceEq, Int.reduceNe, Int.reduceAdd, Int.reduceSub, Int.reduceMul, Int.reduceNeg, Int.reduceToNat]
set_option maxHeartbeats 1000000 in
theorem sameLabels_loop {b : Code} (hb : b = bodyAt Tryz.f58 4) (l : List Label) (hl : l.length ≤ 1073741824) : ∀ (k i : Nat), i + k = l.length →
    evLoop E58 0 b [(0, .d (.sl (l.map Label.d))), (1, .d (.sl (l.map Label.d))), (5, .d (.int .i64 ((i : Int))))] [] = some ([(0, .d (.sl (l.map Label.d))), (1, .d (.sl (l.map Label.d))), (5, .d (.int .i64 (l.length))), (14, .d (.bool false))], [], .exit 0) := by
  simp only [bodyAt, bodyOf, loop_seq, loop_cond, loop_block, loop_loop, loop_region, loop_skip, loop_ret, loop_exit, orE_some, orE_none, Code.first, Option.getD_some, Nat.reduceEqDiff, ↓reduceIte, Tryz.f58] at hb
  subst hb
  intro k
  induction k with
  | zero =>
    intro i hk
    have hi : (i : Int) = (l.length : Int) := by omega
    rw [c_round]
    simp only [u58, Tryz.f58, hi, Int.lt_irrefl, sm, tys, Nat.reduceAdd, Nat.reduceSub, Nat.reduceEqDiff, Nat.reduceLeDiff, Nat.reduceLT, Nat.reduceMul, Nat.reduceBEq, ↓reduceIte, reduceCtorEq, Int.reduceLT, Int.reduceLE, Int.reduceGT, Int.reduceGE, Int.reduceBEq, Int.reduceBNe, Int.reduceEq, Int.reduceNe, Int.reduceAdd, Int.reduceSub, Int.reduceMul, Int.reduceNeg, Int.reduceToNat]
  | succ k ih =>
    intro i hk
    have hi : (i : Int) < (l.length : Int) := by omega
    have h0 : 0 ≤ (i : Int) := by omega
    have hlt : i < l.length := by omega
    have hci : l[i]? = some l[i] := by simp [hlt]
    have hmem : l[i] ∈ l := List.getElem_mem hlt
    generalize l[i] = c at hci hmem
    have hw : IntKind.i64.wrap ((i : Int) + 1) = ((i + 1 : Nat) : Int) := by rw [wrap_i64 (by omega) (by omega)]; omega
    rw [← ih (i + 1) (by omega), c_round]
    simp only [u58, Tryz.f58, hi, h0, hci, hw, Label.d, sm, tys, Nat.reduceAdd, Nat.reduceSub, Nat.reduceEqDiff, Nat.reduceLeDiff, Nat.reduceLT, Nat.reduceMul, Nat.reduceBEq, ↓reduceIte, reduceCtorEq, Int.reduceLT, Int.reduceLE, Int.reduceGT, Int.reduceGE, Int.reduceBEq, Int.reduceBNe, Int.reduceEq, Int.reduceNe, Int.reduceAdd, Int.reduceSub, Int.reduceMul, Int.reduceNeg, Int.reduceToNat]
theorem sameLabels (l : List Label) (hl : l.length ≤ 1073741824) : v58 [.d (.sl (l.map Label.d)), .d (.sl (l.map Label.d))] [] = some (.d (.bool true), []) := by
  have hloop := sameLabels_loop (b := bodyAt Tryz.f58 4) rfl l hl l.length 0 (by omega)
  simp only [bodyAt, bodyOf, loop_seq, loop_cond, loop_block, loop_loop, loop_region, loop_skip, loop_ret, loop_exit, orE_some, orE_none, Code.first, Option.getD_some, Nat.reduceEqDiff, ↓reduceIte, Tryz.f58] at hloop
  simp only [Int.cast_ofNat_Int] at hloop
  simp only [u58, Tryz.f58, hloop, sm, tys, Nat.reduceAdd, Nat.reduceSub, Nat.reduceEqDiff, Nat.reduceLeDiff, Nat.reduceLT, Nat.reduceMul, Nat.reduceBEq, ↓reduceIte, reduceCtorEq, Int.reduceLT, Int.reduceLE, Int.reduceGT, Int.reduceGE, Int.reduceBEq, Int.reduceBNe, Int.reduceEq, Int.reduceNe, Int.reduceAdd, Int.reduceSub, Int.reduceMul, Int.reduceNeg, Int.reduceToNat]
set_option maxHeartbeats 1000000 in
theorem sameReqs_loop {b : Code} (hb : b = bodyAt Tryz.f59 4) (l : List Req) (hl : l.length ≤ 1073741824) (h : ∀ r ∈ l, r.ok) : ∀ (k i : Nat), i + k = l.length →
    evLoop E59 0 b [(0, .d (.sl (l.map Req.d))), (1, .d (.sl (l.map Req.d))), (5, .d (.int .i64 ((i : Int))))] [] = some ([(0, .d (.sl (l.map Req.d))), (1, .d (.sl (l.map Req.d))), (5, .d (.int .i64 (l.length))), (14, .d (.bool false))], [], .exit 0) := by
  simp only [bodyAt, bodyOf, loop_seq, loop_cond, loop_block, loop_loop, loop_region, loop_skip, loop_ret, loop_exit, orE_some, orE_none, Code.first, Option.getD_some, Nat.reduceEqDiff, ↓reduceIte, Tryz.f59] at hb
  subst hb
  intro k
  induction k with
  | zero =>
    intro i hk
    have hi : (i : Int) = (l.length : Int) := by omega
    rw [c_round]
    simp only [u59, Tryz.f59, hi, Int.lt_irrefl, sm, tys, Nat.reduceAdd, Nat.reduceSub, Nat.reduceEqDiff, Nat.reduceLeDiff, Nat.reduceLT, Nat.reduceMul, Nat.reduceBEq, ↓reduceIte, reduceCtorEq, Int.reduceLT, Int.reduceLE, Int.reduceGT, Int.reduceGE, Int.reduceBEq, Int.reduceBNe, Int.reduceEq, Int.reduceNe, Int.reduceAdd, Int.reduceSub, Int.reduceMul, Int.reduceNeg, Int.reduceToNat]
  | succ k ih =>
    intro i hk
    have hi : (i : Int) < (l.length : Int) := by omega
    have h0 : 0 ≤ (i : Int) := by omega
    have hlt : i < l.length := by omega
    have hci : l[i]? = some l[i] := by simp [hlt]
    have hmem : l[i] ∈ l := List.getElem_mem hlt
    generalize l[i] = c at hci hmem
    have hs := sameTexts c.vals (h c hmem)
    have hw : IntKind.i64.wrap ((i : Int) + 1) = ((i + 1 : Nat) : Int) := by rw [wrap_i64 (by omega) (by omega)]; omega
    rw [← ih (i + 1) (by omega), c_round]
    simp only [u59, Tryz.f59, hi, h0, hci, hw, Req.d, hs, sm, tys, Nat.reduceAdd, Nat.reduceSub, Nat.reduceEqDiff, Nat.reduceLeDiff, Nat.reduceLT, Nat.reduceMul, Nat.reduceBEq, ↓reduceIte, reduceCtorEq, Int.reduceLT, Int.reduceLE, Int.reduceGT, Int.reduceGE, Int.reduceBEq, Int.reduceBNe, Int.reduceEq, Int.reduceNe, Int.reduceAdd, Int.reduceSub, Int.reduceMul, Int.reduceNeg, Int.reduceToNat]
theorem sameReqs (l : List Req) (hl : l.length ≤ 1073741824) (h : ∀ r ∈ l, r.ok) : v59 [.d (.sl (l.map Req.d)), .d (.sl (l.map Req.d))] [] = some (.d (.bool true), []) := by
  have hloop := sameReqs_loop (b := bodyAt Tryz.f59 4) rfl l hl h l.length 0 (by omega)
  simp only [bodyAt, bodyOf, loop_seq, loop_cond, loop_block, loop_loop, loop_region, loop_skip, loop_ret, loop_exit, orE_some, orE_none, Code.first, Option.getD_some, Nat.reduceEqDiff, ↓reduceIte, Tryz.f59] at hloop
  simp only [Int.cast_ofNat_Int] at hloop
  simp only [u59, Tryz.f59, hloop, sm, tys, Nat.reduceAdd, Nat.reduceSub, Nat.reduceEqDiff, Nat.reduceLeDiff, Nat.reduceLT, Nat.reduceMul, Nat.reduceBEq, ↓reduceIte, reduceCtorEq, Int.reduceLT, Int.reduceLE, Int.reduceGT, Int.reduceGE, Int.reduceBEq, Int.reduceBNe, Int.reduceEq, Int.reduceNe, Int.reduceAdd, Int.reduceSub, Int.reduceMul, Int.reduceNeg, Int.reduceToNat]
set_option maxHeartbeats 1000000 in
theorem sameTerms_loop {b : Code} (hb : b = bodyAt Tryz.f61 4) (l : List Term) (hl : l.length ≤ 1073741824) (h : ∀ r ∈ l, Reqs.ok r.reqs) : ∀ (k i : Nat), i + k = l.length →
    evLoop E61 0 b [(0, .d (.sl (l.map Term.d))), (1, .d (.sl (l.map Term.d))), (5, .d (.int .i64 ((i : Int))))] [] = some ([(0, .d (.sl (l.map Term.d))), (1, .d (.sl (l.map Term.d))), (5, .d (.int .i64 (l.length))), (14, .d (.bool false))], [], .exit 0) := by
  simp only [bodyAt, bodyOf, loop_seq, loop_cond, loop_block, loop_loop, loop_region, loop_skip, loop_ret, loop_exit, orE_some, orE_none, Code.first, Option.getD_some, Nat.reduceEqDiff, ↓reduceIte, Tryz.f61] at hb
  subst hb
  intro k
  induction k with
  | zero =>
    intro i hk
    have hi : (i : Int) = (l.length : Int) := by omega
    rw [c_round]
    simp only [u61, Tryz.f61, hi, Int.lt_irrefl, sm, tys, Nat.reduceAdd, Nat.reduceSub, Nat.reduceEqDiff, Nat.reduceLeDiff, Nat.reduceLT, Nat.reduceMul, Nat.reduceBEq, ↓reduceIte, reduceCtorEq, Int.reduceLT, Int.reduceLE, Int.reduceGT, Int.reduceGE, Int.reduceBEq, Int.reduceBNe, Int.reduceEq, Int.reduceNe, Int.reduceAdd, Int.reduceSub, Int.reduceMul, Int.reduceNeg, Int.reduceToNat]
  | succ k ih =>
    intro i hk
    have hi : (i : Int) < (l.length : Int) := by omega
    have h0 : 0 ≤ (i : Int) := by omega
    have hlt : i < l.length := by omega
    have hci : l[i]? = some l[i] := by simp [hlt]
    have hmem : l[i] ∈ l := List.getElem_mem hlt
    generalize l[i] = c at hci hmem
    have hs := sameReqs c.reqs (h c hmem).1 (h c hmem).2
    have hw : IntKind.i64.wrap ((i : Int) + 1) = ((i + 1 : Nat) : Int) := by rw [wrap_i64 (by omega) (by omega)]; omega
    rw [← ih (i + 1) (by omega), c_round]
    simp only [u61, Tryz.f61, hi, h0, hci, hw, Term.d, hs, sm, tys, Nat.reduceAdd, Nat.reduceSub, Nat.reduceEqDiff, Nat.reduceLeDiff, Nat.reduceLT, Nat.reduceMul, Nat.reduceBEq, ↓reduceIte, reduceCtorEq, Int.reduceLT, Int.reduceLE, Int.reduceGT, Int.reduceGE, Int.reduceBEq, Int.reduceBNe, Int.reduceEq, Int.reduceNe, Int.reduceAdd, Int.reduceSub, Int.reduceMul, Int.reduceNeg, Int.reduceToNat]
theorem sameTerms (l : List Term) (hl : l.length ≤ 1073741824) (h : ∀ r ∈ l, Reqs.ok r.reqs) : v61 [.d (.sl (l.map Term.d)), .d (.sl (l.map Term.d))] [] = some (.d (.bool true), []) := by
  have hloop := sameTerms_loop (b := bodyAt Tryz.f61 4) rfl l hl h l.length 0 (by omega)
  simp only [bodyAt, bodyOf, loop_seq, loop_cond, loop_block, loop_loop, loop_region, loop_skip, loop_ret, loop_exit, orE_some, orE_none, Code.first, Option.getD_some, Nat.reduceEqDiff, ↓reduceIte, Tryz.f61] at hloop
  simp only [Int.cast_ofNat_Int] at hloop
  simp only [u61, Tryz.f61, hloop, sm, tys, Nat.reduceAdd, Nat.reduceSub, Nat.reduceEqDiff, Nat.reduceLeDiff, Nat.reduceLT, Nat.reduceMul, Nat.reduceBEq, ↓reduceIte, reduceCtorEq, Int.reduceLT, Int.reduceLE, Int.reduceGT, Int.reduceGE, Int.reduceBEq, Int.reduceBNe, Int.reduceEq, Int.reduceNe, Int.reduceAdd, Int.reduceSub, Int.reduceMul, Int.reduceNeg, Int.reduceToNat]
end Go.Wm.Try1
namespace Go.Wm.Try1
open Go Go.Wm Go.Proofs
set_option maxHeartbeats 4000000 in
theorem sameNode_loop {b : Code} (hb : b = bodyAt Tryz.f33 4) (n : Node) (hn : n.ok) : ∀ (k i : Nat), i + k = n.taints.length →
    evLoop E33 0 b [(2, .ptr 0 0), (3, .ptr 1 0), (5, .d (.int .i64 ((i : Int))))] [.box [.d (.str n.name), .d (.sl (n.labels.map Label.d)), .d (.sl (n.taints.map Taint.d)), .d (.bool n.off), .d (.int .i64 (n.give.cpu)), .d (.int .i64 (n.give.mem)), .d (.int .i64 (n.give.disk)), .d (.int .i64 (n.pods)), .d (.int .i64 (n.disks))], .box [.d (.str n.name), .d (.sl (n.labels.map Label.d)), .d (.sl (n.taints.map Taint.d)), .d (.bool n.off), .d (.int .i64 (n.give.cpu)), .d (.int .i64 (n.give.mem)), .d (.int .i64 (n.give.disk)), .d (.int .i64 (n.pods)), .d (.int .i64 (n.disks))]] = some ([(2, .ptr 0 0), (3, .ptr 1 0), (5, .d (.int .i64 (n.taints.length))), (60, .d (.bool false))], [.box [.d (.str n.name), .d (.sl (n.labels.map Label.d)), .d (.sl (n.taints.map Taint.d)), .d (.bool n.off), .d (.int .i64 (n.give.cpu)), .d (.int .i64 (n.give.mem)), .d (.int .i64 (n.give.disk)), .d (.int .i64 (n.pods)), .d (.int .i64 (n.disks))], .box [.d (.str n.name), .d (.sl (n.labels.map Label.d)), .d (.sl (n.taints.map Taint.d)), .d (.bool n.off), .d (.int .i64 (n.give.cpu)), .d (.int .i64 (n.give.mem)), .d (.int .i64 (n.give.disk)), .d (.int .i64 (n.pods)), .d (.int .i64 (n.disks))]], .exit 0) := by
  simp only [bodyAt, bodyOf, loop_seq, loop_cond, loop_block, loop_loop, loop_region, loop_skip, loop_ret, loop_exit, orE_some, orE_none, Code.first, Option.getD_some, Nat.reduceEqDiff, ↓reduceIte, Tryz.f33] at hb
  subst hb
  have hl := hn.2
  unfold Small at hl
  intro k
  induction k with
  | zero =>
    intro i hk
    have hi : (i : Int) = (n.taints.length : Int) := by omega
    rw [c_round]
    simp only [u33, Tryz.f33, hi, Int.lt_irrefl, sm, tys, Nat.reduceAdd, Nat.reduceSub, Nat.reduceEqDiff, Nat.reduceLeDiff, Nat.reduceLT, Nat.reduceMul, Nat.reduceBEq, ↓reduceIte, reduceCtorEq, Int.reduceLT, Int.reduceLE, Int.reduceGT, Int.reduceGE, Int.reduceBEq, Int.reduceBNe, Int.reduceEq, Int.reduceNe, Int.reduceAdd, Int.reduceSub, Int.reduceMul, Int.reduceNeg, Int.reduceToNat]
  | succ k ih =>
    intro i hk
    have hi : (i : Int) < (n.taints.length : Int) := by omega
    have h0 : 0 ≤ (i : Int) := by omega
    have hlt : i < n.taints.length := by omega
    have hci : n.taints[i]? = some n.taints[i] := by simp [hlt]
    generalize n.taints[i] = c at hci
    have hw : IntKind.i64.wrap ((i : Int) + 1) = ((i + 1 : Nat) : Int) := by rw [wrap_i64 (by omega) (by omega)]; omega
    rw [← ih (i + 1) (by omega), c_round]
    simp only [u33, Tryz.f33, hi, h0, hci, hw, Taint.d, sm, tys, Nat.reduceAdd, Nat.reduceSub, Nat.reduceEqDiff, Nat.reduceLeDiff, Nat.reduceLT, Nat.reduceMul, Nat.reduceBEq, ↓reduceIte, reduceCtorEq, Int.reduceLT, Int.reduceLE, Int.reduceGT, Int.reduceGE, Int.reduceBEq, Int.reduceBNe, Int.reduceEq, Int.reduceNe, Int.reduceAdd, Int.reduceSub, Int.reduceMul, Int.reduceNeg, Int.reduceToNat]
set_option maxHeartbeats 4000000 in
theorem sameNode (n : Node) (hn : n.ok) : v33 [.d n.d, .d n.d] [] = some (.d (.bool true), []) := by
  have hloop := sameNode_loop (b := bodyAt Tryz.f33 4) rfl n hn n.taints.length 0 (by omega)
  simp only [bodyAt, bodyOf, loop_seq, loop_cond, loop_block, loop_loop, loop_region, loop_skip, loop_ret, loop_exit, orE_some, orE_none, Code.first, Option.getD_some, Nat.reduceEqDiff, ↓reduceIte, Tryz.f33] at hloop
  simp only [Int.cast_ofNat_Int] at hloop
  have l1 := sameLabels n.labels hn.1
  simp only [u33, Tryz.f33, Node.d, Node.cs, hloop, l1, sm, tys, Nat.reduceAdd, Nat.reduceSub, Nat.reduceEqDiff, Nat.reduceLeDiff, Nat.reduceLT, Nat.reduceMul, Nat.reduceBEq, ↓reduceIte, reduceCtorEq, Int.reduceLT, Int.reduceLE, Int.reduceGT, Int.reduceGE, Int.reduceBEq, Int.reduceBNe, Int.reduceEq, Int.reduceNe, Int.reduceAdd, Int.reduceSub, Int.reduceMul, Int.reduceNeg, Int.reduceToNat]
set_option maxHeartbeats 4000000 in
theorem samePod_loop6 {b : Code} (hb : b = bodyAt Tryz.f32 6) (p : Pod) (hp : p.ok) : ∀ (k i : Nat), i + k = p.bears.length →
    evLoop E32 0 b [(2, .ptr 0 0), (3, .ptr 1 0), (5, .d (.int .i64 ((i : Int))))] [.box [.d (.str p.name), .d (.int .i64 (p.prio)), .d (.sl (p.labels.map Label.d)), .d (.int .i64 (p.want.cpu)), .d (.int .i64 (p.want.mem)), .d (.int .i64 (p.want.disk)), .d (.sl (p.bears.map Bear.d)), .d (.sl (p.asks.map Req.d)), .d (.sl (p.prefers.map Prefer.d)), .d (.sl (p.ports.map intD)), .d (.sl (p.near.map Term.d)), .d (.sl (p.apart.map Term.d)), .d (.sl (p.spreads.map Spread.d)), .d (.sl (p.claims.map strD)), .d (.str p.node), .d (.str p.hope)], .box [.d (.str p.name), .d (.int .i64 (p.prio)), .d (.sl (p.labels.map Label.d)), .d (.int .i64 (p.want.cpu)), .d (.int .i64 (p.want.mem)), .d (.int .i64 (p.want.disk)), .d (.sl (p.bears.map Bear.d)), .d (.sl (p.asks.map Req.d)), .d (.sl (p.prefers.map Prefer.d)), .d (.sl (p.ports.map intD)), .d (.sl (p.near.map Term.d)), .d (.sl (p.apart.map Term.d)), .d (.sl (p.spreads.map Spread.d)), .d (.sl (p.claims.map strD)), .d (.str p.node), .d (.str p.hope)]] = some ([(2, .ptr 0 0), (3, .ptr 1 0), (5, .d (.int .i64 (p.bears.length))), (120, .d (.bool false))], [.box [.d (.str p.name), .d (.int .i64 (p.prio)), .d (.sl (p.labels.map Label.d)), .d (.int .i64 (p.want.cpu)), .d (.int .i64 (p.want.mem)), .d (.int .i64 (p.want.disk)), .d (.sl (p.bears.map Bear.d)), .d (.sl (p.asks.map Req.d)), .d (.sl (p.prefers.map Prefer.d)), .d (.sl (p.ports.map intD)), .d (.sl (p.near.map Term.d)), .d (.sl (p.apart.map Term.d)), .d (.sl (p.spreads.map Spread.d)), .d (.sl (p.claims.map strD)), .d (.str p.node), .d (.str p.hope)], .box [.d (.str p.name), .d (.int .i64 (p.prio)), .d (.sl (p.labels.map Label.d)), .d (.int .i64 (p.want.cpu)), .d (.int .i64 (p.want.mem)), .d (.int .i64 (p.want.disk)), .d (.sl (p.bears.map Bear.d)), .d (.sl (p.asks.map Req.d)), .d (.sl (p.prefers.map Prefer.d)), .d (.sl (p.ports.map intD)), .d (.sl (p.near.map Term.d)), .d (.sl (p.apart.map Term.d)), .d (.sl (p.spreads.map Spread.d)), .d (.sl (p.claims.map strD)), .d (.str p.node), .d (.str p.hope)]], .exit 0) := by
  simp only [bodyAt, bodyOf, loop_seq, loop_cond, loop_block, loop_loop, loop_region, loop_skip, loop_ret, loop_exit, orE_some, orE_none, Code.first, Option.getD_some, Nat.reduceEqDiff, ↓reduceIte, Tryz.f32] at hb
  subst hb
  obtain ⟨a1, a2, a3, a4, a5, a6, a7, a8, a9⟩ := hp
  unfold Small at a2
  have a4' := a4.1
  have a8' := a8.1
  unfold Small at a4' a8'
  intro k
  induction k with
  | zero =>
    intro i hk
    have hi : (i : Int) = (p.bears.length : Int) := by omega
    rw [c_round]
    simp only [u32, Tryz.f32, hi, Int.lt_irrefl, sm, tys, Nat.reduceAdd, Nat.reduceSub, Nat.reduceEqDiff, Nat.reduceLeDiff, Nat.reduceLT, Nat.reduceMul, Nat.reduceBEq, ↓reduceIte, reduceCtorEq, Int.reduceLT, Int.reduceLE, Int.reduceGT, Int.reduceGE, Int.reduceBEq, Int.reduceBNe, Int.reduceEq, Int.reduceNe, Int.reduceAdd, Int.reduceSub, Int.reduceMul, Int.reduceNeg, Int.reduceToNat]
  | succ k ih =>
    intro i hk
    have hi : (i : Int) < (p.bears.length : Int) := by omega
    have h0 : 0 ≤ (i : Int) := by omega
    have hlt : i < p.bears.length := by omega
    have hci : p.bears[i]? = some p.bears[i] := by simp [hlt]
    have hmem : p.bears[i] ∈ p.bears := List.getElem_mem hlt
    generalize p.bears[i] = c at hci hmem
    have hw : IntKind.i64.wrap ((i : Int) + 1) = ((i + 1 : Nat) : Int) := by rw [wrap_i64 (by omega) (by omega)]; omega
    rw [← ih (i + 1) (by omega), c_round]
    simp only [u32, Tryz.f32, hi, h0, hci, hw, Bear.d, sm, tys, Nat.reduceAdd, Nat.reduceSub, Nat.reduceEqDiff, Nat.reduceLeDiff, Nat.reduceLT, Nat.reduceMul, Nat.reduceBEq, ↓reduceIte, reduceCtorEq, Int.reduceLT, Int.reduceLE, Int.reduceGT, Int.reduceGE, Int.reduceBEq, Int.reduceBNe, Int.reduceEq, Int.reduceNe, Int.reduceAdd, Int.reduceSub, Int.reduceMul, Int.reduceNeg, Int.reduceToNat]
set_option maxHeartbeats 4000000 in
theorem samePod_loop11 {b : Code} (hb : b = bodyAt Tryz.f32 11) (p : Pod) (hp : p.ok) : ∀ (k i : Nat), i + k = p.prefers.length →
    evLoop E32 0 b [(2, .ptr 0 0), (3, .ptr 1 0), (6, .d (.int .i64 ((i : Int))))] [.box [.d (.str p.name), .d (.int .i64 (p.prio)), .d (.sl (p.labels.map Label.d)), .d (.int .i64 (p.want.cpu)), .d (.int .i64 (p.want.mem)), .d (.int .i64 (p.want.disk)), .d (.sl (p.bears.map Bear.d)), .d (.sl (p.asks.map Req.d)), .d (.sl (p.prefers.map Prefer.d)), .d (.sl (p.ports.map intD)), .d (.sl (p.near.map Term.d)), .d (.sl (p.apart.map Term.d)), .d (.sl (p.spreads.map Spread.d)), .d (.sl (p.claims.map strD)), .d (.str p.node), .d (.str p.hope)], .box [.d (.str p.name), .d (.int .i64 (p.prio)), .d (.sl (p.labels.map Label.d)), .d (.int .i64 (p.want.cpu)), .d (.int .i64 (p.want.mem)), .d (.int .i64 (p.want.disk)), .d (.sl (p.bears.map Bear.d)), .d (.sl (p.asks.map Req.d)), .d (.sl (p.prefers.map Prefer.d)), .d (.sl (p.ports.map intD)), .d (.sl (p.near.map Term.d)), .d (.sl (p.apart.map Term.d)), .d (.sl (p.spreads.map Spread.d)), .d (.sl (p.claims.map strD)), .d (.str p.node), .d (.str p.hope)]] = some ([(2, .ptr 0 0), (3, .ptr 1 0), (6, .d (.int .i64 (p.prefers.length))), (138, .d (.bool false))], [.box [.d (.str p.name), .d (.int .i64 (p.prio)), .d (.sl (p.labels.map Label.d)), .d (.int .i64 (p.want.cpu)), .d (.int .i64 (p.want.mem)), .d (.int .i64 (p.want.disk)), .d (.sl (p.bears.map Bear.d)), .d (.sl (p.asks.map Req.d)), .d (.sl (p.prefers.map Prefer.d)), .d (.sl (p.ports.map intD)), .d (.sl (p.near.map Term.d)), .d (.sl (p.apart.map Term.d)), .d (.sl (p.spreads.map Spread.d)), .d (.sl (p.claims.map strD)), .d (.str p.node), .d (.str p.hope)], .box [.d (.str p.name), .d (.int .i64 (p.prio)), .d (.sl (p.labels.map Label.d)), .d (.int .i64 (p.want.cpu)), .d (.int .i64 (p.want.mem)), .d (.int .i64 (p.want.disk)), .d (.sl (p.bears.map Bear.d)), .d (.sl (p.asks.map Req.d)), .d (.sl (p.prefers.map Prefer.d)), .d (.sl (p.ports.map intD)), .d (.sl (p.near.map Term.d)), .d (.sl (p.apart.map Term.d)), .d (.sl (p.spreads.map Spread.d)), .d (.sl (p.claims.map strD)), .d (.str p.node), .d (.str p.hope)]], .exit 2) := by
  simp only [bodyAt, bodyOf, loop_seq, loop_cond, loop_block, loop_loop, loop_region, loop_skip, loop_ret, loop_exit, orE_some, orE_none, Code.first, Option.getD_some, Nat.reduceEqDiff, ↓reduceIte, Tryz.f32] at hb
  subst hb
  obtain ⟨a1, a2, a3, a4, a5, a6, a7, a8, a9⟩ := hp
  unfold Small at a2
  have a4' := a4.1
  have a8' := a8.1
  unfold Small at a4' a8'
  intro k
  induction k with
  | zero =>
    intro i hk
    have hi : (i : Int) = (p.prefers.length : Int) := by omega
    rw [c_round]
    simp only [u32, Tryz.f32, hi, Int.lt_irrefl, sm, tys, Nat.reduceAdd, Nat.reduceSub, Nat.reduceEqDiff, Nat.reduceLeDiff, Nat.reduceLT, Nat.reduceMul, Nat.reduceBEq, ↓reduceIte, reduceCtorEq, Int.reduceLT, Int.reduceLE, Int.reduceGT, Int.reduceGE, Int.reduceBEq, Int.reduceBNe, Int.reduceEq, Int.reduceNe, Int.reduceAdd, Int.reduceSub, Int.reduceMul, Int.reduceNeg, Int.reduceToNat]
  | succ k ih =>
    intro i hk
    have hi : (i : Int) < (p.prefers.length : Int) := by omega
    have h0 : 0 ≤ (i : Int) := by omega
    have hlt : i < p.prefers.length := by omega
    have hci : p.prefers[i]? = some p.prefers[i] := by simp [hlt]
    have hmem : p.prefers[i] ∈ p.prefers := List.getElem_mem hlt
    generalize p.prefers[i] = c at hci hmem
    have hs := sameReqs c.reqs (a4.2 c hmem).1 (a4.2 c hmem).2
    have hw : IntKind.i64.wrap ((i : Int) + 1) = ((i + 1 : Nat) : Int) := by rw [wrap_i64 (by omega) (by omega)]; omega
    rw [← ih (i + 1) (by omega), c_round]
    simp only [u32, Tryz.f32, hi, h0, hci, hw, Prefer.d, hs, sm, tys, Nat.reduceAdd, Nat.reduceSub, Nat.reduceEqDiff, Nat.reduceLeDiff, Nat.reduceLT, Nat.reduceMul, Nat.reduceBEq, ↓reduceIte, reduceCtorEq, Int.reduceLT, Int.reduceLE, Int.reduceGT, Int.reduceGE, Int.reduceBEq, Int.reduceBNe, Int.reduceEq, Int.reduceNe, Int.reduceAdd, Int.reduceSub, Int.reduceMul, Int.reduceNeg, Int.reduceToNat]
set_option maxHeartbeats 4000000 in
theorem samePod_loop16 {b : Code} (hb : b = bodyAt Tryz.f32 16) (p : Pod) (hp : p.ok) : ∀ (k i : Nat), i + k = p.spreads.length →
    evLoop E32 0 b [(2, .ptr 0 0), (3, .ptr 1 0), (7, .d (.int .i64 ((i : Int))))] [.box [.d (.str p.name), .d (.int .i64 (p.prio)), .d (.sl (p.labels.map Label.d)), .d (.int .i64 (p.want.cpu)), .d (.int .i64 (p.want.mem)), .d (.int .i64 (p.want.disk)), .d (.sl (p.bears.map Bear.d)), .d (.sl (p.asks.map Req.d)), .d (.sl (p.prefers.map Prefer.d)), .d (.sl (p.ports.map intD)), .d (.sl (p.near.map Term.d)), .d (.sl (p.apart.map Term.d)), .d (.sl (p.spreads.map Spread.d)), .d (.sl (p.claims.map strD)), .d (.str p.node), .d (.str p.hope)], .box [.d (.str p.name), .d (.int .i64 (p.prio)), .d (.sl (p.labels.map Label.d)), .d (.int .i64 (p.want.cpu)), .d (.int .i64 (p.want.mem)), .d (.int .i64 (p.want.disk)), .d (.sl (p.bears.map Bear.d)), .d (.sl (p.asks.map Req.d)), .d (.sl (p.prefers.map Prefer.d)), .d (.sl (p.ports.map intD)), .d (.sl (p.near.map Term.d)), .d (.sl (p.apart.map Term.d)), .d (.sl (p.spreads.map Spread.d)), .d (.sl (p.claims.map strD)), .d (.str p.node), .d (.str p.hope)]] = some ([(2, .ptr 0 0), (3, .ptr 1 0), (7, .d (.int .i64 (p.spreads.length))), (174, .d (.bool false))], [.box [.d (.str p.name), .d (.int .i64 (p.prio)), .d (.sl (p.labels.map Label.d)), .d (.int .i64 (p.want.cpu)), .d (.int .i64 (p.want.mem)), .d (.int .i64 (p.want.disk)), .d (.sl (p.bears.map Bear.d)), .d (.sl (p.asks.map Req.d)), .d (.sl (p.prefers.map Prefer.d)), .d (.sl (p.ports.map intD)), .d (.sl (p.near.map Term.d)), .d (.sl (p.apart.map Term.d)), .d (.sl (p.spreads.map Spread.d)), .d (.sl (p.claims.map strD)), .d (.str p.node), .d (.str p.hope)], .box [.d (.str p.name), .d (.int .i64 (p.prio)), .d (.sl (p.labels.map Label.d)), .d (.int .i64 (p.want.cpu)), .d (.int .i64 (p.want.mem)), .d (.int .i64 (p.want.disk)), .d (.sl (p.bears.map Bear.d)), .d (.sl (p.asks.map Req.d)), .d (.sl (p.prefers.map Prefer.d)), .d (.sl (p.ports.map intD)), .d (.sl (p.near.map Term.d)), .d (.sl (p.apart.map Term.d)), .d (.sl (p.spreads.map Spread.d)), .d (.sl (p.claims.map strD)), .d (.str p.node), .d (.str p.hope)]], .exit 4) := by
  simp only [bodyAt, bodyOf, loop_seq, loop_cond, loop_block, loop_loop, loop_region, loop_skip, loop_ret, loop_exit, orE_some, orE_none, Code.first, Option.getD_some, Nat.reduceEqDiff, ↓reduceIte, Tryz.f32] at hb
  subst hb
  obtain ⟨a1, a2, a3, a4, a5, a6, a7, a8, a9⟩ := hp
  unfold Small at a2
  have a4' := a4.1
  have a8' := a8.1
  unfold Small at a4' a8'
  intro k
  induction k with
  | zero =>
    intro i hk
    have hi : (i : Int) = (p.spreads.length : Int) := by omega
    rw [c_round]
    simp only [u32, Tryz.f32, hi, Int.lt_irrefl, sm, tys, Nat.reduceAdd, Nat.reduceSub, Nat.reduceEqDiff, Nat.reduceLeDiff, Nat.reduceLT, Nat.reduceMul, Nat.reduceBEq, ↓reduceIte, reduceCtorEq, Int.reduceLT, Int.reduceLE, Int.reduceGT, Int.reduceGE, Int.reduceBEq, Int.reduceBNe, Int.reduceEq, Int.reduceNe, Int.reduceAdd, Int.reduceSub, Int.reduceMul, Int.reduceNeg, Int.reduceToNat]
  | succ k ih =>
    intro i hk
    have hi : (i : Int) < (p.spreads.length : Int) := by omega
    have h0 : 0 ≤ (i : Int) := by omega
    have hlt : i < p.spreads.length := by omega
    have hci : p.spreads[i]? = some p.spreads[i] := by simp [hlt]
    have hmem : p.spreads[i] ∈ p.spreads := List.getElem_mem hlt
    generalize p.spreads[i] = c at hci hmem
    have hs := sameReqs c.reqs (a8.2 c hmem).1 (a8.2 c hmem).2
    have hw : IntKind.i64.wrap ((i : Int) + 1) = ((i + 1 : Nat) : Int) := by rw [wrap_i64 (by omega) (by omega)]; omega
    rw [← ih (i + 1) (by omega), c_round]
    simp only [u32, Tryz.f32, hi, h0, hci, hw, Spread.d, hs, sm, tys, Nat.reduceAdd, Nat.reduceSub, Nat.reduceEqDiff, Nat.reduceLeDiff, Nat.reduceLT, Nat.reduceMul, Nat.reduceBEq, ↓reduceIte, reduceCtorEq, Int.reduceLT, Int.reduceLE, Int.reduceGT, Int.reduceGE, Int.reduceBEq, Int.reduceBNe, Int.reduceEq, Int.reduceNe, Int.reduceAdd, Int.reduceSub, Int.reduceMul, Int.reduceNeg, Int.reduceToNat]
set_option maxHeartbeats 8000000 in
theorem samePod (p : Pod) (hp : p.ok) : v32 [.d p.d, .d p.d] [] = some (.d (.bool true), []) := by
  have q1 := samePod_loop6 (b := bodyAt Tryz.f32 6) rfl p hp p.bears.length 0 (by omega)
  have q2 := samePod_loop11 (b := bodyAt Tryz.f32 11) rfl p hp p.prefers.length 0 (by omega)
  have q3 := samePod_loop16 (b := bodyAt Tryz.f32 16) rfl p hp p.spreads.length 0 (by omega)
  simp only [bodyAt, bodyOf, loop_seq, loop_cond, loop_block, loop_loop, loop_region, loop_skip, loop_ret, loop_exit, orE_some, orE_none, Code.first, Option.getD_some, Nat.reduceEqDiff, ↓reduceIte, Tryz.f32] at q1 q2 q3
  simp only [Int.cast_ofNat_Int] at q1 q2 q3
  obtain ⟨a1, a2, a3, a4, a5, a6, a7, a8, a9⟩ := hp
  have l1 := sameLabels p.labels a1
  have l2 := sameReqs p.asks a3.1 a3.2
  have l3 := sameInts p.ports a5
  have l4 := sameTerms p.near a6.1 a6.2
  have l5 := sameTerms p.apart a7.1 a7.2
  have l6 := sameTexts p.claims a9
  simp only [u32, Tryz.f32, Pod.d, Pod.cs, l1, l2, l3, l4, l5, l6, q1, q2, q3, sm, tys, Nat.reduceAdd, Nat.reduceSub, Nat.reduceEqDiff, Nat.reduceLeDiff, Nat.reduceLT, Nat.reduceMul, Nat.reduceBEq, ↓reduceIte, reduceCtorEq, Int.reduceLT, Int.reduceLE, Int.reduceGT, Int.reduceGE, Int.reduceBEq, Int.reduceBNe, Int.reduceEq, Int.reduceNe, Int.reduceAdd, Int.reduceSub, Int.reduceMul, Int.reduceNeg, Int.reduceToNat]
end Go.Wm.Try1
namespace Go.Wm.Try1
open Go Go.Wm Go.Proofs
structure Vol where
  name : Str
  size : Int
  cls : Str
  reqs : List Req
  claim : Str
def Vol.d (x : Vol) : D := .agg [.str x.name, .int .i64 x.size, .str x.cls, .sl (x.reqs.map Req.d), .str x.claim]
structure Claim where
  name : Str
  size : Int
  cls : Str
  vol : Str
def Claim.d (x : Claim) : D := .agg [.str x.name, .int .i64 x.size, .str x.cls, .str x.vol]
structure Class where
  name : Str
  wait : Bool
def Class.d (x : Class) : D := .agg [.str x.name, .bool x.wait]
structure Budget where
  name : Str
  reqs : List Req
  least : Int
def Budget.d (x : Budget) : D := .agg [.str x.name, .sl (x.reqs.map Req.d), .int .i64 x.least]
structure Pick where
  claim : Str
  vol : Str
def Pick.d (x : Pick) : D := .agg [.str x.claim, .str x.vol]
structure State where
  pods : List Pod
  nodes : List Node
  vols : List Vol
  claims : List Claim
  classes : List Class
  budgets : List Budget
def State.cs (s : State) : List D := [.sl (s.pods.map Pod.d), .sl (s.nodes.map Node.d), .sl (s.vols.map Vol.d), .sl (s.claims.map Claim.d), .sl (s.classes.map Class.d), .sl (s.budgets.map Budget.d)]
def State.d (s : State) : D := .agg s.cs
def Vol.ok (v : Vol) : Prop := Reqs.ok v.reqs
def Budget.ok (v : Budget) : Prop := Reqs.ok v.reqs
def State.ok (s : State) : Prop := (Small s.pods ∧ ∀ p ∈ s.pods, p.ok) ∧ (Small s.nodes ∧ ∀ n ∈ s.nodes, n.ok) ∧ (Small s.vols ∧ ∀ v ∈ s.vols, v.ok) ∧ Small s.claims ∧ Small s.classes ∧ (Small s.budgets ∧ ∀ b ∈ s.budgets, b.ok)
theorem all_Vold (l : List Vol) : (l.map Vol.d).all (fun x => x.cells.length == 5) = true := by simp [Vol.d, D.cells]
theorem all_Claimd (l : List Claim) : (l.map Claim.d).all (fun x => x.cells.length == 4) = true := by simp [Claim.d, D.cells]
theorem all_Classd (l : List Class) : (l.map Class.d).all (fun x => x.cells.length == 2) = true := by simp [Class.d, D.cells]
theorem all_Budgetd (l : List Budget) : (l.map Budget.d).all (fun x => x.cells.length == 3) = true := by simp [Budget.d, D.cells]
theorem all_Pickd (l : List Pick) : (l.map Pick.d).all (fun x => x.cells.length == 2) = true := by simp [Pick.d, D.cells]
theorem sameVol (v : Vol) (h : v.ok) : v34 [.d v.d, .d v.d] [] = some (.d (.bool true), []) := by
  have hr := sameReqs v.reqs h.1 h.2
  simp only [u34, Tryz.f34, Vol.d, hr, sm, tys, Nat.reduceAdd, Nat.reduceSub, Nat.reduceEqDiff, Nat.reduceLeDiff, Nat.reduceLT, Nat.reduceMul, Nat.reduceBEq, ↓reduceIte, reduceCtorEq, Int.reduceLT, Int.reduceLE, Int.reduceGT, Int.reduceGE, Int.reduceBEq, Int.reduceBNe, Int.reduceEq, Int.reduceNe, Int.reduceAdd, Int.reduceSub, Int.reduceMul, Int.reduceNeg, Int.reduceToNat]
theorem sameBudget (v : Budget) (h : v.ok) : v35 [.d v.d, .d v.d] [] = some (.d (.bool true), []) := by
  have hr := sameReqs v.reqs h.1 h.2
  simp only [u35, Tryz.f35, Budget.d, hr, sm, tys, Nat.reduceAdd, Nat.reduceSub, Nat.reduceEqDiff, Nat.reduceLeDiff, Nat.reduceLT, Nat.reduceMul, Nat.reduceBEq, ↓reduceIte, reduceCtorEq, Int.reduceLT, Int.reduceLE, Int.reduceGT, Int.reduceGE, Int.reduceBEq, Int.reduceBNe, Int.reduceEq, Int.reduceNe, Int.reduceAdd, Int.reduceSub, Int.reduceMul, Int.reduceNeg, Int.reduceToNat]
set_option maxHeartbeats 4000000 in
theorem sameState_loop4 {b : Code} (hb : b = bodyAt Tryz.f14 4) (s : State) (h : s.ok) : ∀ (k i : Nat), i + k = s.pods.length →
    evLoop E14 0 b [(2, .ptr 0 0), (3, .ptr 1 0), (5, .d (.int .i64 ((i : Int))))] [.box [.d (.sl (s.pods.map Pod.d)), .d (.sl (s.nodes.map Node.d)), .d (.sl (s.vols.map Vol.d)), .d (.sl (s.claims.map Claim.d)), .d (.sl (s.classes.map Class.d)), .d (.sl (s.budgets.map Budget.d))], .box [.d (.sl (s.pods.map Pod.d)), .d (.sl (s.nodes.map Node.d)), .d (.sl (s.vols.map Vol.d)), .d (.sl (s.claims.map Claim.d)), .d (.sl (s.classes.map Class.d)), .d (.sl (s.budgets.map Budget.d))]] = some ([(2, .ptr 0 0), (3, .ptr 1 0), (5, .d (.int .i64 (s.pods.length))), (67, .d (.bool false))], [.box [.d (.sl (s.pods.map Pod.d)), .d (.sl (s.nodes.map Node.d)), .d (.sl (s.vols.map Vol.d)), .d (.sl (s.claims.map Claim.d)), .d (.sl (s.classes.map Class.d)), .d (.sl (s.budgets.map Budget.d))], .box [.d (.sl (s.pods.map Pod.d)), .d (.sl (s.nodes.map Node.d)), .d (.sl (s.vols.map Vol.d)), .d (.sl (s.claims.map Claim.d)), .d (.sl (s.classes.map Class.d)), .d (.sl (s.budgets.map Budget.d))]], .exit 0) := by
  have hl := h.1.1
  simp only [bodyAt, bodyOf, loop_seq, loop_cond, loop_block, loop_loop, loop_region, loop_skip, loop_ret, loop_exit, orE_some, orE_none, Code.first, Option.getD_some, Nat.reduceEqDiff, ↓reduceIte, Tryz.f14] at hb
  subst hb
  unfold Small at hl
  intro k
  induction k with
  | zero =>
    intro i hk
    have hi : (i : Int) = (s.pods.length : Int) := by omega
    rw [c_round]
    simp only [u14, Tryz.f14, hi, Int.lt_irrefl, sm, tys, Nat.reduceAdd, Nat.reduceSub, Nat.reduceEqDiff, Nat.reduceLeDiff, Nat.reduceLT, Nat.reduceMul, Nat.reduceBEq, ↓reduceIte, reduceCtorEq, Int.reduceLT, Int.reduceLE, Int.reduceGT, Int.reduceGE, Int.reduceBEq, Int.reduceBNe, Int.reduceEq, Int.reduceNe, Int.reduceAdd, Int.reduceSub, Int.reduceMul, Int.reduceNeg, Int.reduceToNat]
  | succ k ih =>
    intro i hk
    have hi : (i : Int) < (s.pods.length : Int) := by omega
    have h0 : 0 ≤ (i : Int) := by omega
    have hlt : i < s.pods.length := by omega
    have hci : s.pods[i]? = some s.pods[i] := by simp [hlt]
    have hmem : s.pods[i] ∈ s.pods := List.getElem_mem hlt
    generalize s.pods[i] = c at hci hmem
    have hs := samePod c (h.1.2 c hmem)
    have hcc : c.d.cells.length = 16 := rfl
    have htk : D.agg (List.take 16 c.d.cells) = c.d := rfl
    have hw : IntKind.i64.wrap ((i : Int) + 1) = ((i + 1 : Nat) : Int) := by rw [wrap_i64 (by omega) (by omega)]; omega
    rw [← ih (i + 1) (by omega), c_round]
    simp only [u14, Tryz.f14, hi, h0, hci, hw, hs, hcc, htk, sm, tys, Nat.reduceAdd, Nat.reduceSub, Nat.reduceEqDiff, Nat.reduceLeDiff, Nat.reduceLT, Nat.reduceMul, Nat.reduceBEq, ↓reduceIte, reduceCtorEq, Int.reduceLT, Int.reduceLE, Int.reduceGT, Int.reduceGE, Int.reduceBEq, Int.reduceBNe, Int.reduceEq, Int.reduceNe, Int.reduceAdd, Int.reduceSub, Int.reduceMul, Int.reduceNeg, Int.reduceToNat]
set_option maxHeartbeats 4000000 in
theorem sameState_loop9 {b : Code} (hb : b = bodyAt Tryz.f14 9) (s : State) (h : s.ok) : ∀ (k i : Nat), i + k = s.nodes.length →
    evLoop E14 0 b [(2, .ptr 0 0), (3, .ptr 1 0), (6, .d (.int .i64 ((i : Int))))] [.box [.d (.sl (s.pods.map Pod.d)), .d (.sl (s.nodes.map Node.d)), .d (.sl (s.vols.map Vol.d)), .d (.sl (s.claims.map Claim.d)), .d (.sl (s.classes.map Class.d)), .d (.sl (s.budgets.map Budget.d))], .box [.d (.sl (s.pods.map Pod.d)), .d (.sl (s.nodes.map Node.d)), .d (.sl (s.vols.map Vol.d)), .d (.sl (s.claims.map Claim.d)), .d (.sl (s.classes.map Class.d)), .d (.sl (s.budgets.map Budget.d))]] = some ([(2, .ptr 0 0), (3, .ptr 1 0), (6, .d (.int .i64 (s.nodes.length))), (86, .d (.bool false))], [.box [.d (.sl (s.pods.map Pod.d)), .d (.sl (s.nodes.map Node.d)), .d (.sl (s.vols.map Vol.d)), .d (.sl (s.claims.map Claim.d)), .d (.sl (s.classes.map Class.d)), .d (.sl (s.budgets.map Budget.d))], .box [.d (.sl (s.pods.map Pod.d)), .d (.sl (s.nodes.map Node.d)), .d (.sl (s.vols.map Vol.d)), .d (.sl (s.claims.map Claim.d)), .d (.sl (s.classes.map Class.d)), .d (.sl (s.budgets.map Budget.d))]], .exit 2) := by
  have hl := h.2.1.1
  simp only [bodyAt, bodyOf, loop_seq, loop_cond, loop_block, loop_loop, loop_region, loop_skip, loop_ret, loop_exit, orE_some, orE_none, Code.first, Option.getD_some, Nat.reduceEqDiff, ↓reduceIte, Tryz.f14] at hb
  subst hb
  unfold Small at hl
  intro k
  induction k with
  | zero =>
    intro i hk
    have hi : (i : Int) = (s.nodes.length : Int) := by omega
    rw [c_round]
    simp only [u14, Tryz.f14, hi, Int.lt_irrefl, sm, tys, Nat.reduceAdd, Nat.reduceSub, Nat.reduceEqDiff, Nat.reduceLeDiff, Nat.reduceLT, Nat.reduceMul, Nat.reduceBEq, ↓reduceIte, reduceCtorEq, Int.reduceLT, Int.reduceLE, Int.reduceGT, Int.reduceGE, Int.reduceBEq, Int.reduceBNe, Int.reduceEq, Int.reduceNe, Int.reduceAdd, Int.reduceSub, Int.reduceMul, Int.reduceNeg, Int.reduceToNat]
  | succ k ih =>
    intro i hk
    have hi : (i : Int) < (s.nodes.length : Int) := by omega
    have h0 : 0 ≤ (i : Int) := by omega
    have hlt : i < s.nodes.length := by omega
    have hci : s.nodes[i]? = some s.nodes[i] := by simp [hlt]
    have hmem : s.nodes[i] ∈ s.nodes := List.getElem_mem hlt
    generalize s.nodes[i] = c at hci hmem
    have hs := sameNode c (h.2.1.2 c hmem)
    have hcc : c.d.cells.length = 9 := rfl
    have htk : D.agg (List.take 9 c.d.cells) = c.d := rfl
    have hw : IntKind.i64.wrap ((i : Int) + 1) = ((i + 1 : Nat) : Int) := by rw [wrap_i64 (by omega) (by omega)]; omega
    rw [← ih (i + 1) (by omega), c_round]
    simp only [u14, Tryz.f14, hi, h0, hci, hw, hs, hcc, htk, sm, tys, Nat.reduceAdd, Nat.reduceSub, Nat.reduceEqDiff, Nat.reduceLeDiff, Nat.reduceLT, Nat.reduceMul, Nat.reduceBEq, ↓reduceIte, reduceCtorEq, Int.reduceLT, Int.reduceLE, Int.reduceGT, Int.reduceGE, Int.reduceBEq, Int.reduceBNe, Int.reduceEq, Int.reduceNe, Int.reduceAdd, Int.reduceSub, Int.reduceMul, Int.reduceNeg, Int.reduceToNat]
set_option maxHeartbeats 4000000 in
theorem sameState_loop14 {b : Code} (hb : b = bodyAt Tryz.f14 14) (s : State) (h : s.ok) : ∀ (k i : Nat), i + k = s.vols.length →
    evLoop E14 0 b [(2, .ptr 0 0), (3, .ptr 1 0), (7, .d (.int .i64 ((i : Int))))] [.box [.d (.sl (s.pods.map Pod.d)), .d (.sl (s.nodes.map Node.d)), .d (.sl (s.vols.map Vol.d)), .d (.sl (s.claims.map Claim.d)), .d (.sl (s.classes.map Class.d)), .d (.sl (s.budgets.map Budget.d))], .box [.d (.sl (s.pods.map Pod.d)), .d (.sl (s.nodes.map Node.d)), .d (.sl (s.vols.map Vol.d)), .d (.sl (s.claims.map Claim.d)), .d (.sl (s.classes.map Class.d)), .d (.sl (s.budgets.map Budget.d))]] = some ([(2, .ptr 0 0), (3, .ptr 1 0), (7, .d (.int .i64 (s.vols.length))), (105, .d (.bool false))], [.box [.d (.sl (s.pods.map Pod.d)), .d (.sl (s.nodes.map Node.d)), .d (.sl (s.vols.map Vol.d)), .d (.sl (s.claims.map Claim.d)), .d (.sl (s.classes.map Class.d)), .d (.sl (s.budgets.map Budget.d))], .box [.d (.sl (s.pods.map Pod.d)), .d (.sl (s.nodes.map Node.d)), .d (.sl (s.vols.map Vol.d)), .d (.sl (s.claims.map Claim.d)), .d (.sl (s.classes.map Class.d)), .d (.sl (s.budgets.map Budget.d))]], .exit 4) := by
  have hl := h.2.2.1.1
  simp only [bodyAt, bodyOf, loop_seq, loop_cond, loop_block, loop_loop, loop_region, loop_skip, loop_ret, loop_exit, orE_some, orE_none, Code.first, Option.getD_some, Nat.reduceEqDiff, ↓reduceIte, Tryz.f14] at hb
  subst hb
  unfold Small at hl
  intro k
  induction k with
  | zero =>
    intro i hk
    have hi : (i : Int) = (s.vols.length : Int) := by omega
    rw [c_round]
    simp only [u14, Tryz.f14, hi, Int.lt_irrefl, sm, tys, Nat.reduceAdd, Nat.reduceSub, Nat.reduceEqDiff, Nat.reduceLeDiff, Nat.reduceLT, Nat.reduceMul, Nat.reduceBEq, ↓reduceIte, reduceCtorEq, Int.reduceLT, Int.reduceLE, Int.reduceGT, Int.reduceGE, Int.reduceBEq, Int.reduceBNe, Int.reduceEq, Int.reduceNe, Int.reduceAdd, Int.reduceSub, Int.reduceMul, Int.reduceNeg, Int.reduceToNat]
  | succ k ih =>
    intro i hk
    have hi : (i : Int) < (s.vols.length : Int) := by omega
    have h0 : 0 ≤ (i : Int) := by omega
    have hlt : i < s.vols.length := by omega
    have hci : s.vols[i]? = some s.vols[i] := by simp [hlt]
    have hmem : s.vols[i] ∈ s.vols := List.getElem_mem hlt
    generalize s.vols[i] = c at hci hmem
    have hs := sameVol c (h.2.2.1.2 c hmem)
    have hcc : c.d.cells.length = 5 := rfl
    have htk : D.agg (List.take 5 c.d.cells) = c.d := rfl
    have hw : IntKind.i64.wrap ((i : Int) + 1) = ((i + 1 : Nat) : Int) := by rw [wrap_i64 (by omega) (by omega)]; omega
    rw [← ih (i + 1) (by omega), c_round]
    simp only [u14, Tryz.f14, hi, h0, hci, hw, hs, hcc, htk, sm, tys, Nat.reduceAdd, Nat.reduceSub, Nat.reduceEqDiff, Nat.reduceLeDiff, Nat.reduceLT, Nat.reduceMul, Nat.reduceBEq, ↓reduceIte, reduceCtorEq, Int.reduceLT, Int.reduceLE, Int.reduceGT, Int.reduceGE, Int.reduceBEq, Int.reduceBNe, Int.reduceEq, Int.reduceNe, Int.reduceAdd, Int.reduceSub, Int.reduceMul, Int.reduceNeg, Int.reduceToNat]
set_option maxHeartbeats 4000000 in
theorem sameState_loop19 {b : Code} (hb : b = bodyAt Tryz.f14 19) (s : State) (h : s.ok) : ∀ (k i : Nat), i + k = s.claims.length →
    evLoop E14 0 b [(2, .ptr 0 0), (3, .ptr 1 0), (8, .d (.int .i64 ((i : Int))))] [.box [.d (.sl (s.pods.map Pod.d)), .d (.sl (s.nodes.map Node.d)), .d (.sl (s.vols.map Vol.d)), .d (.sl (s.claims.map Claim.d)), .d (.sl (s.classes.map Class.d)), .d (.sl (s.budgets.map Budget.d))], .box [.d (.sl (s.pods.map Pod.d)), .d (.sl (s.nodes.map Node.d)), .d (.sl (s.vols.map Vol.d)), .d (.sl (s.claims.map Claim.d)), .d (.sl (s.classes.map Class.d)), .d (.sl (s.budgets.map Budget.d))]] = some ([(2, .ptr 0 0), (3, .ptr 1 0), (8, .d (.int .i64 (s.claims.length))), (124, .d (.bool false))], [.box [.d (.sl (s.pods.map Pod.d)), .d (.sl (s.nodes.map Node.d)), .d (.sl (s.vols.map Vol.d)), .d (.sl (s.claims.map Claim.d)), .d (.sl (s.classes.map Class.d)), .d (.sl (s.budgets.map Budget.d))], .box [.d (.sl (s.pods.map Pod.d)), .d (.sl (s.nodes.map Node.d)), .d (.sl (s.vols.map Vol.d)), .d (.sl (s.claims.map Claim.d)), .d (.sl (s.classes.map Class.d)), .d (.sl (s.budgets.map Budget.d))]], .exit 6) := by
  have hl := h.2.2.2.1
  simp only [bodyAt, bodyOf, loop_seq, loop_cond, loop_block, loop_loop, loop_region, loop_skip, loop_ret, loop_exit, orE_some, orE_none, Code.first, Option.getD_some, Nat.reduceEqDiff, ↓reduceIte, Tryz.f14] at hb
  subst hb
  unfold Small at hl
  intro k
  induction k with
  | zero =>
    intro i hk
    have hi : (i : Int) = (s.claims.length : Int) := by omega
    rw [c_round]
    simp only [u14, Tryz.f14, hi, Int.lt_irrefl, sm, tys, Nat.reduceAdd, Nat.reduceSub, Nat.reduceEqDiff, Nat.reduceLeDiff, Nat.reduceLT, Nat.reduceMul, Nat.reduceBEq, ↓reduceIte, reduceCtorEq, Int.reduceLT, Int.reduceLE, Int.reduceGT, Int.reduceGE, Int.reduceBEq, Int.reduceBNe, Int.reduceEq, Int.reduceNe, Int.reduceAdd, Int.reduceSub, Int.reduceMul, Int.reduceNeg, Int.reduceToNat]
  | succ k ih =>
    intro i hk
    have hi : (i : Int) < (s.claims.length : Int) := by omega
    have h0 : 0 ≤ (i : Int) := by omega
    have hlt : i < s.claims.length := by omega
    have hci : s.claims[i]? = some s.claims[i] := by simp [hlt]
    have hmem : s.claims[i] ∈ s.claims := List.getElem_mem hlt
    generalize s.claims[i] = c at hci hmem
    have hw : IntKind.i64.wrap ((i : Int) + 1) = ((i + 1 : Nat) : Int) := by rw [wrap_i64 (by omega) (by omega)]; omega
    rw [← ih (i + 1) (by omega), c_round]
    simp only [u14, Tryz.f14, hi, h0, hci, hw, Claim.d, sm, tys, Nat.reduceAdd, Nat.reduceSub, Nat.reduceEqDiff, Nat.reduceLeDiff, Nat.reduceLT, Nat.reduceMul, Nat.reduceBEq, ↓reduceIte, reduceCtorEq, Int.reduceLT, Int.reduceLE, Int.reduceGT, Int.reduceGE, Int.reduceBEq, Int.reduceBNe, Int.reduceEq, Int.reduceNe, Int.reduceAdd, Int.reduceSub, Int.reduceMul, Int.reduceNeg, Int.reduceToNat]
set_option maxHeartbeats 4000000 in
theorem sameState_loop24 {b : Code} (hb : b = bodyAt Tryz.f14 24) (s : State) (h : s.ok) : ∀ (k i : Nat), i + k = s.classes.length →
    evLoop E14 0 b [(2, .ptr 0 0), (3, .ptr 1 0), (9, .d (.int .i64 ((i : Int))))] [.box [.d (.sl (s.pods.map Pod.d)), .d (.sl (s.nodes.map Node.d)), .d (.sl (s.vols.map Vol.d)), .d (.sl (s.claims.map Claim.d)), .d (.sl (s.classes.map Class.d)), .d (.sl (s.budgets.map Budget.d))], .box [.d (.sl (s.pods.map Pod.d)), .d (.sl (s.nodes.map Node.d)), .d (.sl (s.vols.map Vol.d)), .d (.sl (s.claims.map Claim.d)), .d (.sl (s.classes.map Class.d)), .d (.sl (s.budgets.map Budget.d))]] = some ([(2, .ptr 0 0), (3, .ptr 1 0), (9, .d (.int .i64 (s.classes.length))), (142, .d (.bool false))], [.box [.d (.sl (s.pods.map Pod.d)), .d (.sl (s.nodes.map Node.d)), .d (.sl (s.vols.map Vol.d)), .d (.sl (s.claims.map Claim.d)), .d (.sl (s.classes.map Class.d)), .d (.sl (s.budgets.map Budget.d))], .box [.d (.sl (s.pods.map Pod.d)), .d (.sl (s.nodes.map Node.d)), .d (.sl (s.vols.map Vol.d)), .d (.sl (s.claims.map Claim.d)), .d (.sl (s.classes.map Class.d)), .d (.sl (s.budgets.map Budget.d))]], .exit 8) := by
  have hl := h.2.2.2.2.1
  simp only [bodyAt, bodyOf, loop_seq, loop_cond, loop_block, loop_loop, loop_region, loop_skip, loop_ret, loop_exit, orE_some, orE_none, Code.first, Option.getD_some, Nat.reduceEqDiff, ↓reduceIte, Tryz.f14] at hb
  subst hb
  unfold Small at hl
  intro k
  induction k with
  | zero =>
    intro i hk
    have hi : (i : Int) = (s.classes.length : Int) := by omega
    rw [c_round]
    simp only [u14, Tryz.f14, hi, Int.lt_irrefl, sm, tys, Nat.reduceAdd, Nat.reduceSub, Nat.reduceEqDiff, Nat.reduceLeDiff, Nat.reduceLT, Nat.reduceMul, Nat.reduceBEq, ↓reduceIte, reduceCtorEq, Int.reduceLT, Int.reduceLE, Int.reduceGT, Int.reduceGE, Int.reduceBEq, Int.reduceBNe, Int.reduceEq, Int.reduceNe, Int.reduceAdd, Int.reduceSub, Int.reduceMul, Int.reduceNeg, Int.reduceToNat]
  | succ k ih =>
    intro i hk
    have hi : (i : Int) < (s.classes.length : Int) := by omega
    have h0 : 0 ≤ (i : Int) := by omega
    have hlt : i < s.classes.length := by omega
    have hci : s.classes[i]? = some s.classes[i] := by simp [hlt]
    have hmem : s.classes[i] ∈ s.classes := List.getElem_mem hlt
    generalize s.classes[i] = c at hci hmem
    have hw : IntKind.i64.wrap ((i : Int) + 1) = ((i + 1 : Nat) : Int) := by rw [wrap_i64 (by omega) (by omega)]; omega
    rw [← ih (i + 1) (by omega), c_round]
    simp only [u14, Tryz.f14, hi, h0, hci, hw, Class.d, sm, tys, Nat.reduceAdd, Nat.reduceSub, Nat.reduceEqDiff, Nat.reduceLeDiff, Nat.reduceLT, Nat.reduceMul, Nat.reduceBEq, ↓reduceIte, reduceCtorEq, Int.reduceLT, Int.reduceLE, Int.reduceGT, Int.reduceGE, Int.reduceBEq, Int.reduceBNe, Int.reduceEq, Int.reduceNe, Int.reduceAdd, Int.reduceSub, Int.reduceMul, Int.reduceNeg, Int.reduceToNat]
set_option maxHeartbeats 4000000 in
theorem sameState_loop29 {b : Code} (hb : b = bodyAt Tryz.f14 29) (s : State) (h : s.ok) : ∀ (k i : Nat), i + k = s.budgets.length →
    evLoop E14 0 b [(2, .ptr 0 0), (3, .ptr 1 0), (10, .d (.int .i64 ((i : Int))))] [.box [.d (.sl (s.pods.map Pod.d)), .d (.sl (s.nodes.map Node.d)), .d (.sl (s.vols.map Vol.d)), .d (.sl (s.claims.map Claim.d)), .d (.sl (s.classes.map Class.d)), .d (.sl (s.budgets.map Budget.d))], .box [.d (.sl (s.pods.map Pod.d)), .d (.sl (s.nodes.map Node.d)), .d (.sl (s.vols.map Vol.d)), .d (.sl (s.claims.map Claim.d)), .d (.sl (s.classes.map Class.d)), .d (.sl (s.budgets.map Budget.d))]] = some ([(2, .ptr 0 0), (3, .ptr 1 0), (10, .d (.int .i64 (s.budgets.length))), (160, .d (.bool false))], [.box [.d (.sl (s.pods.map Pod.d)), .d (.sl (s.nodes.map Node.d)), .d (.sl (s.vols.map Vol.d)), .d (.sl (s.claims.map Claim.d)), .d (.sl (s.classes.map Class.d)), .d (.sl (s.budgets.map Budget.d))], .box [.d (.sl (s.pods.map Pod.d)), .d (.sl (s.nodes.map Node.d)), .d (.sl (s.vols.map Vol.d)), .d (.sl (s.claims.map Claim.d)), .d (.sl (s.classes.map Class.d)), .d (.sl (s.budgets.map Budget.d))]], .exit 10) := by
  have hl := h.2.2.2.2.2.1
  simp only [bodyAt, bodyOf, loop_seq, loop_cond, loop_block, loop_loop, loop_region, loop_skip, loop_ret, loop_exit, orE_some, orE_none, Code.first, Option.getD_some, Nat.reduceEqDiff, ↓reduceIte, Tryz.f14] at hb
  subst hb
  unfold Small at hl
  intro k
  induction k with
  | zero =>
    intro i hk
    have hi : (i : Int) = (s.budgets.length : Int) := by omega
    rw [c_round]
    simp only [u14, Tryz.f14, hi, Int.lt_irrefl, sm, tys, Nat.reduceAdd, Nat.reduceSub, Nat.reduceEqDiff, Nat.reduceLeDiff, Nat.reduceLT, Nat.reduceMul, Nat.reduceBEq, ↓reduceIte, reduceCtorEq, Int.reduceLT, Int.reduceLE, Int.reduceGT, Int.reduceGE, Int.reduceBEq, Int.reduceBNe, Int.reduceEq, Int.reduceNe, Int.reduceAdd, Int.reduceSub, Int.reduceMul, Int.reduceNeg, Int.reduceToNat]
  | succ k ih =>
    intro i hk
    have hi : (i : Int) < (s.budgets.length : Int) := by omega
    have h0 : 0 ≤ (i : Int) := by omega
    have hlt : i < s.budgets.length := by omega
    have hci : s.budgets[i]? = some s.budgets[i] := by simp [hlt]
    have hmem : s.budgets[i] ∈ s.budgets := List.getElem_mem hlt
    generalize s.budgets[i] = c at hci hmem
    have hs := sameBudget c (h.2.2.2.2.2.2 c hmem)
    have hcc : c.d.cells.length = 3 := rfl
    have htk : D.agg (List.take 3 c.d.cells) = c.d := rfl
    have hw : IntKind.i64.wrap ((i : Int) + 1) = ((i + 1 : Nat) : Int) := by rw [wrap_i64 (by omega) (by omega)]; omega
    rw [← ih (i + 1) (by omega), c_round]
    simp only [u14, Tryz.f14, hi, h0, hci, hw, hs, hcc, htk, sm, tys, Nat.reduceAdd, Nat.reduceSub, Nat.reduceEqDiff, Nat.reduceLeDiff, Nat.reduceLT, Nat.reduceMul, Nat.reduceBEq, ↓reduceIte, reduceCtorEq, Int.reduceLT, Int.reduceLE, Int.reduceGT, Int.reduceGE, Int.reduceBEq, Int.reduceBNe, Int.reduceEq, Int.reduceNe, Int.reduceAdd, Int.reduceSub, Int.reduceMul, Int.reduceNeg, Int.reduceToNat]
set_option maxHeartbeats 4000000 in
theorem sameState (s : State) (h : s.ok) : v14 [.d s.d, .d s.d] [] = some (.d (.bool true), []) := by
  have h4 := sameState_loop4 (b := bodyAt Tryz.f14 4) rfl s h s.pods.length 0 (by omega)
  have h9 := sameState_loop9 (b := bodyAt Tryz.f14 9) rfl s h s.nodes.length 0 (by omega)
  have h14 := sameState_loop14 (b := bodyAt Tryz.f14 14) rfl s h s.vols.length 0 (by omega)
  have h19 := sameState_loop19 (b := bodyAt Tryz.f14 19) rfl s h s.claims.length 0 (by omega)
  have h24 := sameState_loop24 (b := bodyAt Tryz.f14 24) rfl s h s.classes.length 0 (by omega)
  have h29 := sameState_loop29 (b := bodyAt Tryz.f14 29) rfl s h s.budgets.length 0 (by omega)
  simp only [bodyAt, bodyOf, loop_seq, loop_cond, loop_block, loop_loop, loop_region, loop_skip, loop_ret, loop_exit, orE_some, orE_none, Code.first, Option.getD_some, Nat.reduceEqDiff, ↓reduceIte, Tryz.f14] at h4 h9 h14 h19 h24 h29
  simp only [Int.cast_ofNat_Int] at h4 h9 h14 h19 h24 h29
  simp only [u14, Tryz.f14, State.d, State.cs, h4, h9, h14, h19, h24, h29, sm, tys, Nat.reduceAdd, Nat.reduceSub, Nat.reduceEqDiff, Nat.reduceLeDiff, Nat.reduceLT, Nat.reduceMul, Nat.reduceBEq, ↓reduceIte, reduceCtorEq, Int.reduceLT, Int.reduceLE, Int.reduceGT, Int.reduceGE, Int.reduceBEq, Int.reduceBNe, Int.reduceEq, Int.reduceNe, Int.reduceAdd, Int.reduceSub, Int.reduceMul, Int.reduceNeg, Int.reduceToNat]
end Go.Wm.Try1
