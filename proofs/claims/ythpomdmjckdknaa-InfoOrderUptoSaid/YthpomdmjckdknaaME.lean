/-
  A part of the proof: an abstract run of the program, shown to be what the model does, and what it comes to.
-/
import Derived.Test.YthpomdmjckdknaaMD
set_option linter.unusedSectionVars false
set_option linter.unnecessarySimpa false
set_option maxRecDepth 100000
set_option linter.unusedVariables false
set_option linter.unusedSimpArgs false
set_option linter.defProp false
namespace Go.Wm.Try1
open Go Go.Wm Go.Proofs
set_option maxHeartbeats 4000000 in
theorem own_eq (n : Node) (u : Res) (ns ds : List Str) (po : List Int) (l1 : Small ns) (l2 : Small po) (l3 : Small ds) :
    v47 [.agg [.d (.str n.name), .d (.sl (n.labels.map Label.d)), .d (.sl (n.taints.map Taint.d)), .d (.bool n.off), .d (.int .i64 (n.give.cpu)), .d (.int .i64 (n.give.mem)), .d (.int .i64 (n.give.disk)), .d (.int .i64 (n.pods)), .d (.int .i64 (n.disks)), .sl 0 0 (ns).length, .d (.int .i64 (u.cpu)), .d (.int .i64 (u.mem)), .d (.int .i64 (u.disk)), .sl 1 0 (po).length, .sl 2 0 (ds).length]] [.row 9 1 ((ns).map strD), .row 3 1 ((po).map intD), .row 9 1 ((ds).map strD)] = some (.agg [.d (.str n.name), .d (.sl (n.labels.map Label.d)), .d (.sl (n.taints.map Taint.d)), .d (.bool n.off), .d (.int .i64 (n.give.cpu)), .d (.int .i64 (n.give.mem)), .d (.int .i64 (n.give.disk)), .d (.int .i64 (n.pods)), .d (.int .i64 (n.disks)), .sl 3 0 (ns).length, .d (.int .i64 (u.cpu)), .d (.int .i64 (u.mem)), .d (.int .i64 (u.disk)), .sl 4 0 (po).length, .sl 5 0 (ds).length], [.row 9 1 ((ns).map strD), .row 3 1 ((po).map intD), .row 9 1 ((ds).map strD), .row 9 1 ((ns).map strD), .row 3 1 ((po).map intD), .row 9 1 ((ds).map strD)]) := by
  unfold Small at l1 l2 l3
  have h1 := vcl66 (ns.map strD) (all_strD ns) (by simp; omega)
  have h2 := vcl67 (po.map intD) (all_intD po) (by simp; omega)
  have h3 := vcl66 (ds.map strD) (all_strD ds) (by simp; omega)
  rw [List.length_map] at h1 h2 h3
  simp only [u47, Try.f47, h1, h2, h3, sm, tys, Nat.reduceAdd, Nat.reduceSub, Nat.reduceEqDiff, Nat.reduceLeDiff, Nat.reduceLT, Nat.reduceMul, Nat.reduceBEq, ↓reduceIte, reduceCtorEq, Int.reduceLT, Int.reduceLE, Int.reduceGT, Int.reduceGE, Int.reduceBEq, Int.reduceBNe, Int.reduceEq, Int.reduceNe, Int.reduceAdd, Int.reduceSub, Int.reduceMul, Int.reduceNeg, Int.reduceToNat]
set_option maxHeartbeats 8000000 in
theorem add_new (n : Node) (x : Info) (p : Pod) (hg : x.good) (h : ¬ p.name ∈ x.names) (l1 : Small x.names) (l2 : x.ports.length + p.ports.length ≤ 1073741824) (l3 : x.disks.length + p.claims.length ≤ 1073741824) :
    v23 [.agg [.d (.str n.name), .d (.sl (n.labels.map Label.d)), .d (.sl (n.taints.map Taint.d)), .d (.bool n.off), .d (.int .i64 (n.give.cpu)), .d (.int .i64 (n.give.mem)), .d (.int .i64 (n.give.disk)), .d (.int .i64 (n.pods)), .d (.int .i64 (n.disks)), .sl 0 0 (x).names.length, .d (.int .i64 ((x).used.cpu)), .d (.int .i64 ((x).used.mem)), .d (.int .i64 ((x).used.disk)), .sl 1 0 (x).ports.length, .sl 2 0 (x).disks.length], .d p.d] [.row 9 1 (((x).names).map strD), .row 3 1 (((x).ports).map intD), .row 9 1 (((x).disks).map strD)] = some (.tup [.agg [.d (.str n.name), .d (.sl (n.labels.map Label.d)), .d (.sl (n.taints.map Taint.d)), .d (.bool n.off), .d (.int .i64 (n.give.cpu)), .d (.int .i64 (n.give.mem)), .d (.int .i64 (n.give.disk)), .d (.int .i64 (n.pods)), .d (.int .i64 (n.disks)), .sl 3 0 ((x.plus p)).names.length, .d (.int .i64 (((x.plus p)).used.cpu)), .d (.int .i64 (((x.plus p)).used.mem)), .d (.int .i64 (((x.plus p)).used.disk)), .sl 4 0 ((x.plus p)).ports.length, .sl 5 0 ((x.plus p)).disks.length], .d (.int .i64 (0))], [.row 9 1 (((x).names).map strD), .row 3 1 (((x).ports).map intD), .row 9 1 (((x).disks).map strD), .row 9 1 ((((x.plus p)).names).map strD), .row 3 1 ((((x.plus p)).ports).map intD), .row 9 1 ((((x.plus p)).disks).map strD)]) := by
  have hcon := contains_string x.names l1 p.name
  simp only [h, decide_false] at hcon
  have hown := own_eq n x.used x.names x.disks x.ports l1 (by unfold Small; omega) (by unfold Small; omega)
  have hwith := with_eq n x.used x.names x.disks x.ports p hg.1 hg.2.1 hg.2.2 l1 l2 l3
  have ht := List.take_length (l := x.names.map strD)
  rw [List.length_map] at ht
  simp only [Pod.d, Pod.cs] at hwith
  simp only [u23, Try.f23, Pod.d, Pod.cs, ht, hcon, hown, hwith, Info.plus, sm, tys, Nat.reduceAdd, Nat.reduceSub, Nat.reduceEqDiff, Nat.reduceLeDiff, Nat.reduceLT, Nat.reduceMul, Nat.reduceBEq, ↓reduceIte, reduceCtorEq, Int.reduceLT, Int.reduceLE, Int.reduceGT, Int.reduceGE, Int.reduceBEq, Int.reduceBNe, Int.reduceEq, Int.reduceNe, Int.reduceAdd, Int.reduceSub, Int.reduceMul, Int.reduceNeg, Int.reduceToNat]
set_option maxHeartbeats 8000000 in
theorem add_same (n : Node) (x : Info) (p : Pod) (h : p.name ∈ x.names) (l1 : Small x.names) :
    v23 [.agg [.d (.str n.name), .d (.sl (n.labels.map Label.d)), .d (.sl (n.taints.map Taint.d)), .d (.bool n.off), .d (.int .i64 (n.give.cpu)), .d (.int .i64 (n.give.mem)), .d (.int .i64 (n.give.disk)), .d (.int .i64 (n.pods)), .d (.int .i64 (n.disks)), .sl 0 0 (x).names.length, .d (.int .i64 ((x).used.cpu)), .d (.int .i64 ((x).used.mem)), .d (.int .i64 ((x).used.disk)), .sl 1 0 (x).ports.length, .sl 2 0 (x).disks.length], .d p.d] [.row 9 1 (((x).names).map strD), .row 3 1 (((x).ports).map intD), .row 9 1 (((x).disks).map strD)] = some (.tup [.agg [.d (.str []), .nil, .nil, .d (.bool false), .d (.int .i64 (0)), .d (.int .i64 (0)), .d (.int .i64 (0)), .d (.int .i64 (0)), .d (.int .i64 (0)), .nil, .d (.int .i64 (0)), .d (.int .i64 (0)), .d (.int .i64 (0)), .nil, .nil], .d (.int .i64 (6))], [.row 9 1 (((x).names).map strD), .row 3 1 (((x).ports).map intD), .row 9 1 (((x).disks).map strD)]) := by
  have hcon := contains_string x.names l1 p.name
  simp only [h, decide_true] at hcon
  have ht := List.take_length (l := x.names.map strD)
  rw [List.length_map] at ht
  simp only [u23, Try.f23, Pod.d, Pod.cs, ht, hcon, sm, tys, Nat.reduceAdd, Nat.reduceSub, Nat.reduceEqDiff, Nat.reduceLeDiff, Nat.reduceLT, Nat.reduceMul, Nat.reduceBEq, ↓reduceIte, reduceCtorEq, Int.reduceLT, Int.reduceLE, Int.reduceGT, Int.reduceGE, Int.reduceBEq, Int.reduceBNe, Int.reduceEq, Int.reduceNe, Int.reduceAdd, Int.reduceSub, Int.reduceMul, Int.reduceNeg, Int.reduceToNat]
end Go.Wm.Try1
namespace Go.Wm.Try1
open Go Go.Wm Go.Proofs
theorem texts_own (l : List Str) (hl : Small l) : v51t [.d (.sl (l.map strD))] [] = some (.own 0 (l.map strD), [.tok 9 l.length 1]) := by
  have h1 := all_strD l
  have h2 : l.length ≤ 2147483648 := by unfold Small at hl; omega
  simp only [u51t, Try.f51, h1, h2, sm, tys, Nat.reduceAdd, Nat.reduceSub, Nat.reduceEqDiff, Nat.reduceLeDiff, Nat.reduceLT, Nat.reduceMul, Nat.reduceBEq, ↓reduceIte, reduceCtorEq, Int.reduceLT, Int.reduceLE, Int.reduceGT, Int.reduceGE, Int.reduceBEq, Int.reduceBNe, Int.reduceEq, Int.reduceNe, Int.reduceAdd, Int.reduceSub, Int.reduceMul, Int.reduceNeg, Int.reduceToNat]
theorem ints_own (l : List Int) (hl : Small l) : v49t [.d (.sl (l.map intD))] [] = some (.own 0 (l.map intD), [.tok 3 l.length 1]) := by
  have h1 := all_intD l
  have h2 : l.length ≤ 2147483648 := by unfold Small at hl; omega
  simp only [u49t, Try.f49, h1, h2, sm, tys, Nat.reduceAdd, Nat.reduceSub, Nat.reduceEqDiff, Nat.reduceLeDiff, Nat.reduceLT, Nat.reduceMul, Nat.reduceBEq, ↓reduceIte, reduceCtorEq, Int.reduceLT, Int.reduceLE, Int.reduceGT, Int.reduceGE, Int.reduceBEq, Int.reduceBNe, Int.reduceEq, Int.reduceNe, Int.reduceAdd, Int.reduceSub, Int.reduceMul, Int.reduceNeg, Int.reduceToNat]
def Info.zero : Info := ⟨⟨[], [], [], false, ⟨0, 0, 0⟩, 0, 0⟩, [], ⟨0, 0, 0⟩, [], []⟩
set_option maxHeartbeats 8000000 in
theorem radd_new (x : Info) (p : Pod) (hg : x.good) (h : ¬ p.name ∈ x.names) (l1 : x.names.length + 1 ≤ 1073741824) (l2 : x.ports.length + p.ports.length ≤ 1073741824) (l3 : x.disks.length + p.claims.length ≤ 1073741824) :
    v25 [.d x.d, .d p.d] [] = some (.tup [.d (x.plus p).d, .d (.int .i64 (0))], []) := by
  have hcon := has_eq x.names (by unfold Small; omega) p.name
  simp only [h, decide_false] at hcon
  have h1 := texts_own x.names (by unfold Small; omega)
  have h2 := ints_own x.ports (by unfold Small; omega)
  have h3 := texts_own x.disks (by unfold Small; omega)
  have h4 := sorted_eq (x.names ++ [p.name]) (by unfold Small; simp; omega)
  have h5 := rints_eq (x.ports ++ p.ports) (by unfold Small; simp; omega)
  have h6 := sorted_eq (x.disks ++ p.claims) (by unfold Small; simp; omega)
  have h7 := rplus_eq x.used p.want
  rw [putsO_one _ _ _ hg.1] at h4
  rw [putsO_more _ _ _ hg.2.1] at h5
  rw [putsO_more _ _ _ hg.2.2] at h6
  rw [List.map_append] at h4 h5 h6
  simp only [List.map_cons, List.map_nil, strD] at h4
  simp only [Res.d] at h7
  have k1 : x.names.length + 1 ≤ 2147483648 := by omega
  have k2 : x.ports.length + p.ports.length ≤ 2147483648 := by omega
  have k3 : x.disks.length + p.claims.length ≤ 2147483648 := by omega
  have a1 := all_intD p.ports
  have a2 := all_strD p.claims
  simp only [u25, Try.f25, Info.d, Info.cs, Node.cs, Pod.d, Pod.cs, Res.d, strD, hcon, h1, h2, h3, h4, h5, h6, h7, k1, k2, k3, a1, a2, Info.plus, sm, tys, Nat.reduceAdd, Nat.reduceSub, Nat.reduceEqDiff, Nat.reduceLeDiff, Nat.reduceLT, Nat.reduceMul, Nat.reduceBEq, ↓reduceIte, reduceCtorEq, Int.reduceLT, Int.reduceLE, Int.reduceGT, Int.reduceGE, Int.reduceBEq, Int.reduceBNe, Int.reduceEq, Int.reduceNe, Int.reduceAdd, Int.reduceSub, Int.reduceMul, Int.reduceNeg, Int.reduceToNat]
set_option maxHeartbeats 8000000 in
theorem radd_same (x : Info) (p : Pod) (h : p.name ∈ x.names) (l1 : Small x.names) :
    v25 [.d x.d, .d p.d] [] = some (.tup [.d Info.zero.d, .d (.int .i64 (6))], []) := by
  have hcon := has_eq x.names l1 p.name
  simp only [h, decide_true] at hcon
  simp only [u25, Try.f25, Info.d, Info.cs, Node.cs, Pod.d, Pod.cs, hcon, Info.zero, sm, tys, Nat.reduceAdd, Nat.reduceSub, Nat.reduceEqDiff, Nat.reduceLeDiff, Nat.reduceLT, Nat.reduceMul, Nat.reduceBEq, ↓reduceIte, reduceCtorEq, Int.reduceLT, Int.reduceLE, Int.reduceGT, Int.reduceGE, Int.reduceBEq, Int.reduceBNe, Int.reduceEq, Int.reduceNe, Int.reduceAdd, Int.reduceSub, Int.reduceMul, Int.reduceNeg, Int.reduceToNat]
end Go.Wm.Try1
namespace Go.Wm.Try1
open Go Go.Wm Go.Proofs
/-- who goes -/
def goes (ns : List Str) (p q : Pod) : Bool := decide (q.name = p.name) || !decide (q.name ∈ ns)
theorem stays_def (ns : List Str) (p : Pod) (l : List Pod) : staysOf ns p l = l.filter fun q => !goes ns p q := rfl
set_option maxHeartbeats 4000000 in
theorem goes_eq (n : Node) (x : Info) (p q : Pod) (l1 : Small x.names) :
    v54 [.d q.d, .ptr 0 0, .ptr 1 0] [.box [.d (.str p.name), .d (.int .i64 (p.prio)), .d (.sl (p.labels.map Label.d)), .d (.int .i64 (p.want.cpu)), .d (.int .i64 (p.want.mem)), .d (.int .i64 (p.want.disk)), .d (.sl (p.bears.map Bear.d)), .d (.sl (p.asks.map Req.d)), .d (.sl (p.prefers.map Prefer.d)), .d (.sl (p.ports.map intD)), .d (.sl (p.near.map Term.d)), .d (.sl (p.apart.map Term.d)), .d (.sl (p.spreads.map Spread.d)), .d (.sl (p.claims.map strD)), .d (.str p.node), .d (.str p.hope)], .box [.d (.str n.name), .d (.sl (n.labels.map Label.d)), .d (.sl (n.taints.map Taint.d)), .d (.bool n.off), .d (.int .i64 (n.give.cpu)), .d (.int .i64 (n.give.mem)), .d (.int .i64 (n.give.disk)), .d (.int .i64 (n.pods)), .d (.int .i64 (n.disks)), .sl 2 0 (x).names.length, .d (.int .i64 ((x).used.cpu)), .d (.int .i64 ((x).used.mem)), .d (.int .i64 ((x).used.disk)), .sl 3 0 (x).ports.length, .sl 4 0 (x).disks.length], .row 9 1 (((x).names).map strD), .row 3 1 (((x).ports).map intD), .row 9 1 (((x).disks).map strD)] = some (.d (.bool (goes x.names p q)), [.box [.d (.str p.name), .d (.int .i64 (p.prio)), .d (.sl (p.labels.map Label.d)), .d (.int .i64 (p.want.cpu)), .d (.int .i64 (p.want.mem)), .d (.int .i64 (p.want.disk)), .d (.sl (p.bears.map Bear.d)), .d (.sl (p.asks.map Req.d)), .d (.sl (p.prefers.map Prefer.d)), .d (.sl (p.ports.map intD)), .d (.sl (p.near.map Term.d)), .d (.sl (p.apart.map Term.d)), .d (.sl (p.spreads.map Spread.d)), .d (.sl (p.claims.map strD)), .d (.str p.node), .d (.str p.hope)], .box [.d (.str n.name), .d (.sl (n.labels.map Label.d)), .d (.sl (n.taints.map Taint.d)), .d (.bool n.off), .d (.int .i64 (n.give.cpu)), .d (.int .i64 (n.give.mem)), .d (.int .i64 (n.give.disk)), .d (.int .i64 (n.pods)), .d (.int .i64 (n.disks)), .sl 2 0 (x).names.length, .d (.int .i64 ((x).used.cpu)), .d (.int .i64 ((x).used.mem)), .d (.int .i64 ((x).used.disk)), .sl 3 0 (x).ports.length, .sl 4 0 (x).disks.length], .row 9 1 (((x).names).map strD), .row 3 1 (((x).ports).map intD), .row 9 1 (((x).disks).map strD)]) := by
  have hcon := contains_string x.names l1 q.name
  have ht := List.take_length (l := x.names.map strD)
  rw [List.length_map] at ht
  unfold goes
  by_cases h1 : q.name = p.name
  · simp only [u54, Try.f54, Pod.d, Pod.cs, h1, ht, sm, tys, Nat.reduceAdd, Nat.reduceSub, Nat.reduceEqDiff, Nat.reduceLeDiff, Nat.reduceLT, Nat.reduceMul, Nat.reduceBEq, ↓reduceIte, reduceCtorEq, Int.reduceLT, Int.reduceLE, Int.reduceGT, Int.reduceGE, Int.reduceBEq, Int.reduceBNe, Int.reduceEq, Int.reduceNe, Int.reduceAdd, Int.reduceSub, Int.reduceMul, Int.reduceNeg, Int.reduceToNat]
  · by_cases h2 : q.name ∈ x.names
    · simp only [h2, decide_true] at hcon
      simp only [u54, Try.f54, Pod.d, Pod.cs, h1, h2, ht, hcon, sm, tys, Nat.reduceAdd, Nat.reduceSub, Nat.reduceEqDiff, Nat.reduceLeDiff, Nat.reduceLT, Nat.reduceMul, Nat.reduceBEq, ↓reduceIte, reduceCtorEq, Int.reduceLT, Int.reduceLE, Int.reduceGT, Int.reduceGE, Int.reduceBEq, Int.reduceBNe, Int.reduceEq, Int.reduceNe, Int.reduceAdd, Int.reduceSub, Int.reduceMul, Int.reduceNeg, Int.reduceToNat]
    · simp only [h2, decide_false] at hcon
      simp only [u54, Try.f54, Pod.d, Pod.cs, h1, h2, ht, hcon, sm, tys, Nat.reduceAdd, Nat.reduceSub, Nat.reduceEqDiff, Nat.reduceLeDiff, Nat.reduceLT, Nat.reduceMul, Nat.reduceBEq, ↓reduceIte, reduceCtorEq, Int.reduceLT, Int.reduceLE, Int.reduceGT, Int.reduceGE, Int.reduceBEq, Int.reduceBNe, Int.reduceEq, Int.reduceNe, Int.reduceAdd, Int.reduceSub, Int.reduceMul, Int.reduceNeg, Int.reduceToNat]
set_option maxHeartbeats 4000000 in
theorem gfind {bd : Code} (hb : bd = bodyAt Try.f68 2) (n : Node) (x : Info) (p : Pod) (l1 : Small x.names) (l : List Pod) (hl : Small l) : ∀ (k i : Nat), i + k = l.length →
    (∃ a c b, l.drop i = a ++ c :: b ∧ (∀ q ∈ a, goes x.names p q = false) ∧ goes x.names p c = true ∧ evLoop (E68 [(54, v54)]) 6 bd [(0, .sl 0 0 l.length), (1, .fn (.func 54) [] [.ptr 1 0, .ptr 2 0]), (7, .d (.int .i64 (l.length))), (8, .d (.int .i64 ((i : Int))))] [.row 37 16 ((l).map Pod.d), .box [.d (.str p.name), .d (.int .i64 (p.prio)), .d (.sl (p.labels.map Label.d)), .d (.int .i64 (p.want.cpu)), .d (.int .i64 (p.want.mem)), .d (.int .i64 (p.want.disk)), .d (.sl (p.bears.map Bear.d)), .d (.sl (p.asks.map Req.d)), .d (.sl (p.prefers.map Prefer.d)), .d (.sl (p.ports.map intD)), .d (.sl (p.near.map Term.d)), .d (.sl (p.apart.map Term.d)), .d (.sl (p.spreads.map Spread.d)), .d (.sl (p.claims.map strD)), .d (.str p.node), .d (.str p.hope)], .box [.d (.str n.name), .d (.sl (n.labels.map Label.d)), .d (.sl (n.taints.map Taint.d)), .d (.bool n.off), .d (.int .i64 (n.give.cpu)), .d (.int .i64 (n.give.mem)), .d (.int .i64 (n.give.disk)), .d (.int .i64 (n.pods)), .d (.int .i64 (n.disks)), .sl 3 0 (x).names.length, .d (.int .i64 ((x).used.cpu)), .d (.int .i64 ((x).used.mem)), .d (.int .i64 ((x).used.disk)), .sl 4 0 (x).ports.length, .sl 5 0 (x).disks.length], .row 9 1 (((x).names).map strD), .row 3 1 (((x).ports).map intD), .row 9 1 (((x).disks).map strD)] = some ([(4, .d (.int .i64 (((i + a.length : Nat) : Int))))], [.row 37 16 ((l).map Pod.d), .box [.d (.str p.name), .d (.int .i64 (p.prio)), .d (.sl (p.labels.map Label.d)), .d (.int .i64 (p.want.cpu)), .d (.int .i64 (p.want.mem)), .d (.int .i64 (p.want.disk)), .d (.sl (p.bears.map Bear.d)), .d (.sl (p.asks.map Req.d)), .d (.sl (p.prefers.map Prefer.d)), .d (.sl (p.ports.map intD)), .d (.sl (p.near.map Term.d)), .d (.sl (p.apart.map Term.d)), .d (.sl (p.spreads.map Spread.d)), .d (.sl (p.claims.map strD)), .d (.str p.node), .d (.str p.hope)], .box [.d (.str n.name), .d (.sl (n.labels.map Label.d)), .d (.sl (n.taints.map Taint.d)), .d (.bool n.off), .d (.int .i64 (n.give.cpu)), .d (.int .i64 (n.give.mem)), .d (.int .i64 (n.give.disk)), .d (.int .i64 (n.pods)), .d (.int .i64 (n.disks)), .sl 3 0 (x).names.length, .d (.int .i64 ((x).used.cpu)), .d (.int .i64 ((x).used.mem)), .d (.int .i64 ((x).used.disk)), .sl 4 0 (x).ports.length, .sl 5 0 (x).disks.length], .row 9 1 (((x).names).map strD), .row 3 1 (((x).ports).map intD), .row 9 1 (((x).disks).map strD)], .ret)) ∨
    ((∀ q ∈ l.drop i, goes x.names p q = false) ∧ evLoop (E68 [(54, v54)]) 6 bd [(0, .sl 0 0 l.length), (1, .fn (.func 54) [] [.ptr 1 0, .ptr 2 0]), (7, .d (.int .i64 (l.length))), (8, .d (.int .i64 ((i : Int))))] [.row 37 16 ((l).map Pod.d), .box [.d (.str p.name), .d (.int .i64 (p.prio)), .d (.sl (p.labels.map Label.d)), .d (.int .i64 (p.want.cpu)), .d (.int .i64 (p.want.mem)), .d (.int .i64 (p.want.disk)), .d (.sl (p.bears.map Bear.d)), .d (.sl (p.asks.map Req.d)), .d (.sl (p.prefers.map Prefer.d)), .d (.sl (p.ports.map intD)), .d (.sl (p.near.map Term.d)), .d (.sl (p.apart.map Term.d)), .d (.sl (p.spreads.map Spread.d)), .d (.sl (p.claims.map strD)), .d (.str p.node), .d (.str p.hope)], .box [.d (.str n.name), .d (.sl (n.labels.map Label.d)), .d (.sl (n.taints.map Taint.d)), .d (.bool n.off), .d (.int .i64 (n.give.cpu)), .d (.int .i64 (n.give.mem)), .d (.int .i64 (n.give.disk)), .d (.int .i64 (n.pods)), .d (.int .i64 (n.disks)), .sl 3 0 (x).names.length, .d (.int .i64 ((x).used.cpu)), .d (.int .i64 ((x).used.mem)), .d (.int .i64 ((x).used.disk)), .sl 4 0 (x).ports.length, .sl 5 0 (x).disks.length], .row 9 1 (((x).names).map strD), .row 3 1 (((x).ports).map intD), .row 9 1 (((x).disks).map strD)] = some ([(0, .sl 0 0 l.length), (1, .fn (.func 54) [] [.ptr 1 0, .ptr 2 0]), (7, .d (.int .i64 (l.length))), (8, .d (.int .i64 (l.length))), (9, .d (.bool false))], [.row 37 16 ((l).map Pod.d), .box [.d (.str p.name), .d (.int .i64 (p.prio)), .d (.sl (p.labels.map Label.d)), .d (.int .i64 (p.want.cpu)), .d (.int .i64 (p.want.mem)), .d (.int .i64 (p.want.disk)), .d (.sl (p.bears.map Bear.d)), .d (.sl (p.asks.map Req.d)), .d (.sl (p.prefers.map Prefer.d)), .d (.sl (p.ports.map intD)), .d (.sl (p.near.map Term.d)), .d (.sl (p.apart.map Term.d)), .d (.sl (p.spreads.map Spread.d)), .d (.sl (p.claims.map strD)), .d (.str p.node), .d (.str p.hope)], .box [.d (.str n.name), .d (.sl (n.labels.map Label.d)), .d (.sl (n.taints.map Taint.d)), .d (.bool n.off), .d (.int .i64 (n.give.cpu)), .d (.int .i64 (n.give.mem)), .d (.int .i64 (n.give.disk)), .d (.int .i64 (n.pods)), .d (.int .i64 (n.disks)), .sl 3 0 (x).names.length, .d (.int .i64 ((x).used.cpu)), .d (.int .i64 ((x).used.mem)), .d (.int .i64 ((x).used.disk)), .sl 4 0 (x).ports.length, .sl 5 0 (x).disks.length], .row 9 1 (((x).names).map strD), .row 3 1 (((x).ports).map intD), .row 9 1 (((x).disks).map strD)], .exit 0)) := by
  simp only [bodyAt, bodyOf, loop_seq, loop_cond, loop_block, loop_loop, loop_region, loop_skip, loop_ret, loop_exit, orE_some, orE_none, Code.first, Option.getD_some, Nat.reduceEqDiff, ↓reduceIte, Try.f68] at hb
  subst hb
  unfold Small at hl
  intro k
  induction k with
  | zero =>
    intro i hk
    have hi : (i : Int) = (l.length : Int) := by omega
    have hd : l.drop i = [] := by rw [List.drop_eq_nil_iff]; omega
    rw [c_round, hd]
    refine Or.inr ⟨by simp, ?_⟩
    simp only [u68, Try.f68, hi, Int.lt_irrefl, sm, tys, Nat.reduceAdd, Nat.reduceSub, Nat.reduceEqDiff, Nat.reduceLeDiff, Nat.reduceLT, Nat.reduceMul, Nat.reduceBEq, ↓reduceIte, reduceCtorEq, Int.reduceLT, Int.reduceLE, Int.reduceGT, Int.reduceGE, Int.reduceBEq, Int.reduceBNe, Int.reduceEq, Int.reduceNe, Int.reduceAdd, Int.reduceSub, Int.reduceMul, Int.reduceNeg, Int.reduceToNat]
  | succ k ih =>
    intro i hk
    have hi : (i : Int) < (l.length : Int) := by omega
    have h0 : 0 ≤ (i : Int) := by omega
    have hlt : i < l.length := by omega
    have hci : l[i]? = some l[i] := by simp [hlt]
    have hd : l.drop i = l[i] :: l.drop (i + 1) := List.drop_eq_getElem_cons hlt
    generalize l[i] = c at hci hd
    have hw : IntKind.i64.wrap ((i : Int) + 1) = ((i + 1 : Nat) : Int) := by rw [wrap_i64 (by omega) (by omega)]; omega
    have hh := goes_eq n x p c l1
    have hcc : c.d.cells.length = 16 := rfl
    have htk : D.agg (List.take 16 c.d.cells) = c.d := rfl
    cases e : goes x.names p c with
    | true =>
      refine Or.inl ⟨[], c, l.drop (i + 1), hd, by simp, e, ?_⟩
      rw [e] at hh
      rw [c_round]
      simp only [u68, Try.f68, hi, h0, hci, hh, hcc, htk, sm, tys, Nat.reduceAdd, Nat.reduceSub, Nat.reduceEqDiff, Nat.reduceLeDiff, Nat.reduceLT, Nat.reduceMul, Nat.reduceBEq, ↓reduceIte, reduceCtorEq, Int.reduceLT, Int.reduceLE, Int.reduceGT, Int.reduceGE, Int.reduceBEq, Int.reduceBNe, Int.reduceEq, Int.reduceNe, Int.reduceAdd, Int.reduceSub, Int.reduceMul, Int.reduceNeg, Int.reduceToNat]
    | false =>
      rw [e] at hh
      have hq := ih (i + 1) (by omega)
      rcases hq with ⟨a, c', b, q1, q2, q3, q4⟩ | ⟨q1, q2⟩
      · refine Or.inl ⟨c :: a, c', b, by rw [hd, q1]; rfl, by intro q hq; rcases List.mem_cons.1 hq with rfl | hq; exact e; exact q2 q hq, q3, ?_⟩
        have e2 : i + (c :: a).length = i + 1 + a.length := by rw [List.length_cons]; omega
        rw [e2, ← q4, c_round]
        simp only [u68, Try.f68, hi, h0, hci, hh, hcc, htk, hw, sm, tys, Nat.reduceAdd, Nat.reduceSub, Nat.reduceEqDiff, Nat.reduceLeDiff, Nat.reduceLT, Nat.reduceMul, Nat.reduceBEq, ↓reduceIte, reduceCtorEq, Int.reduceLT, Int.reduceLE, Int.reduceGT, Int.reduceGE, Int.reduceBEq, Int.reduceBNe, Int.reduceEq, Int.reduceNe, Int.reduceAdd, Int.reduceSub, Int.reduceMul, Int.reduceNeg, Int.reduceToNat]
      · refine Or.inr ⟨by intro q hq; rw [hd] at hq; rcases List.mem_cons.1 hq with rfl | hq; exact e; exact q1 q hq, ?_⟩
        rw [← q2, c_round]
        simp only [u68, Try.f68, hi, h0, hci, hh, hcc, htk, hw, sm, tys, Nat.reduceAdd, Nat.reduceSub, Nat.reduceEqDiff, Nat.reduceLeDiff, Nat.reduceLT, Nat.reduceMul, Nat.reduceBEq, ↓reduceIte, reduceCtorEq, Int.reduceLT, Int.reduceLE, Int.reduceGT, Int.reduceGE, Int.reduceBEq, Int.reduceBNe, Int.reduceEq, Int.reduceNe, Int.reduceAdd, Int.reduceSub, Int.reduceMul, Int.reduceNeg, Int.reduceToNat]
end Go.Wm.Try1
namespace Go.Wm.Try1
open Go Go.Wm Go.Proofs
set_option maxHeartbeats 8000000 in
theorem del_loop {bd : Code} (hb : bd = bodyAt Try.f52 5) (n : Node) (x : Info) (p : Pod) (l1 : Small x.names) (l : List Pod) (hl : Small l) : ∀ (k j : Nat) (out mid : List Pod), j + k = l.length → out.length + mid.length = j → mid ≠ [] →
    ∃ mid' : List Pod, (out ++ staysOf x.names p (l.drop j)).length + mid'.length = l.length ∧ evLoop (E52 [(54, v54)]) 6 bd [(0, .sl 0 0 l.length), (1, .fn (.func 54) [] [.ptr 1 0, .ptr 2 0]), (5, .d (.int .i64 (out.length))), (6, .d (.int .i64 ((j : Int))))] [.row 37 16 (((out ++ mid ++ l.drop j)).map Pod.d), .box [.d (.str p.name), .d (.int .i64 (p.prio)), .d (.sl (p.labels.map Label.d)), .d (.int .i64 (p.want.cpu)), .d (.int .i64 (p.want.mem)), .d (.int .i64 (p.want.disk)), .d (.sl (p.bears.map Bear.d)), .d (.sl (p.asks.map Req.d)), .d (.sl (p.prefers.map Prefer.d)), .d (.sl (p.ports.map intD)), .d (.sl (p.near.map Term.d)), .d (.sl (p.apart.map Term.d)), .d (.sl (p.spreads.map Spread.d)), .d (.sl (p.claims.map strD)), .d (.str p.node), .d (.str p.hope)], .box [.d (.str n.name), .d (.sl (n.labels.map Label.d)), .d (.sl (n.taints.map Taint.d)), .d (.bool n.off), .d (.int .i64 (n.give.cpu)), .d (.int .i64 (n.give.mem)), .d (.int .i64 (n.give.disk)), .d (.int .i64 (n.pods)), .d (.int .i64 (n.disks)), .sl 3 0 (x).names.length, .d (.int .i64 ((x).used.cpu)), .d (.int .i64 ((x).used.mem)), .d (.int .i64 ((x).used.disk)), .sl 4 0 (x).ports.length, .sl 5 0 (x).disks.length], .row 9 1 (((x).names).map strD), .row 3 1 (((x).ports).map intD), .row 9 1 (((x).disks).map strD)] = some ([(0, .sl 0 0 l.length), (1, .fn (.func 54) [] [.ptr 1 0, .ptr 2 0]), (5, .d (.int .i64 ((out ++ staysOf x.names p (l.drop j)).length))), (6, .d (.int .i64 (l.length))), (19, .d (.bool false))], [.row 37 16 (((out ++ staysOf x.names p (l.drop j) ++ mid')).map Pod.d), .box [.d (.str p.name), .d (.int .i64 (p.prio)), .d (.sl (p.labels.map Label.d)), .d (.int .i64 (p.want.cpu)), .d (.int .i64 (p.want.mem)), .d (.int .i64 (p.want.disk)), .d (.sl (p.bears.map Bear.d)), .d (.sl (p.asks.map Req.d)), .d (.sl (p.prefers.map Prefer.d)), .d (.sl (p.ports.map intD)), .d (.sl (p.near.map Term.d)), .d (.sl (p.apart.map Term.d)), .d (.sl (p.spreads.map Spread.d)), .d (.sl (p.claims.map strD)), .d (.str p.node), .d (.str p.hope)], .box [.d (.str n.name), .d (.sl (n.labels.map Label.d)), .d (.sl (n.taints.map Taint.d)), .d (.bool n.off), .d (.int .i64 (n.give.cpu)), .d (.int .i64 (n.give.mem)), .d (.int .i64 (n.give.disk)), .d (.int .i64 (n.pods)), .d (.int .i64 (n.disks)), .sl 3 0 (x).names.length, .d (.int .i64 ((x).used.cpu)), .d (.int .i64 ((x).used.mem)), .d (.int .i64 ((x).used.disk)), .sl 4 0 (x).ports.length, .sl 5 0 (x).disks.length], .row 9 1 (((x).names).map strD), .row 3 1 (((x).ports).map intD), .row 9 1 (((x).disks).map strD)], .exit 0) := by
  simp only [bodyAt, bodyOf, loop_seq, loop_cond, loop_block, loop_loop, loop_region, loop_skip, loop_ret, loop_exit, orE_some, orE_none, Code.first, Option.getD_some, Nat.reduceEqDiff, ↓reduceIte, Try.f52] at hb
  subst hb
  unfold Small at hl
  intro k
  induction k with
  | zero =>
    intro j out mid hk hm hne
    have hi : (j : Int) = (l.length : Int) := by omega
    have hd : l.drop j = [] := by rw [List.drop_eq_nil_iff]; omega
    refine ⟨mid, by rw [hd]; simp [staysOf]; omega, ?_⟩
    rw [c_round, hd]
    simp only [u52, Try.f52, hi, Int.lt_irrefl, staysOf, sm, tys, Nat.reduceAdd, Nat.reduceSub, Nat.reduceEqDiff, Nat.reduceLeDiff, Nat.reduceLT, Nat.reduceMul, Nat.reduceBEq, ↓reduceIte, reduceCtorEq, Int.reduceLT, Int.reduceLE, Int.reduceGT, Int.reduceGE, Int.reduceBEq, Int.reduceBNe, Int.reduceEq, Int.reduceNe, Int.reduceAdd, Int.reduceSub, Int.reduceMul, Int.reduceNeg, Int.reduceToNat]
  | succ k ih =>
    intro j out mid hk hm hne
    have hi : (j : Int) < (l.length : Int) := by omega
    have h0 : 0 ≤ (j : Int) := by omega
    have hlt : j < l.length := by omega
    have hci : l[j]? = some l[j] := by simp [hlt]
    have hd : l.drop j = l[j] :: l.drop (j + 1) := List.drop_eq_getElem_cons hlt
    generalize l[j] = q at hci hd
    have hw : IntKind.i64.wrap ((j : Int) + 1) = ((j + 1 : Nat) : Int) := by rw [wrap_i64 (by omega) (by omega)]; omega
    have hh := goes_eq n x p q l1
    simp only [Pod.d, Pod.cs] at hh
    have hcc : q.d.cells.length = 16 := rfl
    have htk : D.agg (List.take 16 q.d.cells) = q.d := rfl
    have hget : (out ++ mid ++ l.drop j)[j]? = some q := by
      rw [List.getElem?_append_right (by simp; omega), hd]
      have : j - (out ++ mid).length = 0 := by simp; omega
      rw [this]; rfl
    cases e : goes x.names p q with
    | true =>
      obtain ⟨mid', q1, q2⟩ := ih (j + 1) out (mid ++ [q]) (by omega) (by simp; omega) (by simp)
      have e1 : staysOf x.names p (l.drop j) = staysOf x.names p (l.drop (j + 1)) := by rw [hd, stays_def, List.filter_cons, stays_def]; simp [e]
      have e2 : out ++ mid ++ l.drop j = out ++ (mid ++ [q]) ++ l.drop (j + 1) := by rw [hd]; simp
      rw [e] at hh
      rw [e1]
      refine ⟨mid', q1, ?_⟩
      rw [e2] at hget ⊢
      rw [← q2, c_round]
      generalize out ++ (mid ++ [q]) ++ l.drop (j + 1) = xs at *
      simp only [u52, Try.f52, hi, h0, hget, hh, Pod.d, Pod.cs, hw, sm, tys, Nat.reduceAdd, Nat.reduceSub, Nat.reduceEqDiff, Nat.reduceLeDiff, Nat.reduceLT, Nat.reduceMul, Nat.reduceBEq, ↓reduceIte, reduceCtorEq, Int.reduceLT, Int.reduceLE, Int.reduceGT, Int.reduceGE, Int.reduceBEq, Int.reduceBNe, Int.reduceEq, Int.reduceNe, Int.reduceAdd, Int.reduceSub, Int.reduceMul, Int.reduceNeg, Int.reduceToNat]
    | false =>
      obtain ⟨m, mid2, rfl⟩ : ∃ m r, mid = m :: r := by cases mid with | nil => exact absurd rfl hne | cons m r => exact ⟨m, r, rfl⟩
      obtain ⟨mid', q1, q2⟩ := ih (j + 1) (out ++ [q]) (mid2 ++ [q]) (by omega) (by simp at hm ⊢; omega) (by simp)
      have e1 : staysOf x.names p (l.drop j) = q :: staysOf x.names p (l.drop (j + 1)) := by rw [hd, stays_def, List.filter_cons, stays_def]; simp [e]
      have hset : (out ++ (m :: mid2) ++ l.drop j).set out.length q = (out ++ [q]) ++ (mid2 ++ [q]) ++ l.drop (j + 1) := by rw [hd]; simp
      have hget2 : (out ++ (m :: mid2) ++ l.drop j)[out.length]? = some m := by simp
      rw [e] at hh
      rw [e1]
      have e3 : out ++ q :: staysOf x.names p (l.drop (j + 1)) = out ++ [q] ++ staysOf x.names p (l.drop (j + 1)) := by simp
      rw [e3]
      refine ⟨mid', q1, ?_⟩
      have hol : (out.length : Int) < (l.length : Int) := by simp at hm; omega
      have ho0 : 0 ≤ (out.length : Int) := by omega
      have how : IntKind.i64.wrap ((out.length : Int) + 1) = (((out ++ [q]).length : Nat) : Int) := by rw [wrap_i64 (by omega) (by omega)]; simp
      rw [← q2, ← hset, c_round]
      generalize out ++ (m :: mid2) ++ l.drop j = xs at *
      rw [List.map_set]
      simp only [u52, Try.f52, hi, h0, hol, ho0, how, hget, hget2, hh, Pod.d, Pod.cs, hw, sm, tys, Nat.reduceAdd, Nat.reduceSub, Nat.reduceEqDiff, Nat.reduceLeDiff, Nat.reduceLT, Nat.reduceMul, Nat.reduceBEq, ↓reduceIte, reduceCtorEq, Int.reduceLT, Int.reduceLE, Int.reduceGT, Int.reduceGE, Int.reduceBEq, Int.reduceBNe, Int.reduceEq, Int.reduceNe, Int.reduceAdd, Int.reduceSub, Int.reduceMul, Int.reduceNeg, Int.reduceToNat]
end Go.Wm.Try1
namespace Go.Wm.Try1
open Go Go.Wm Go.Proofs
theorem stays_sub (ns : List Str) (p : Pod) (l : List Pod) : (staysOf ns p l).Sublist l := List.filter_sublist
theorem sub_sum (f : Pod → Nat) : ∀ {l m : List Pod}, l.Sublist m → (l.map f).sum ≤ (m.map f).sum
  | _, _, .slnil => Nat.le_refl _
  | _, _, .cons a h => by have := sub_sum f h; simp only [List.map_cons, List.sum_cons]; omega
  | _, _, .cons_cons a h => by have := sub_sum f h; simp only [List.map_cons, List.sum_cons]; omega
theorem sub_ok {l m : List Pod} (h : l.Sublist m) (hm : Pods.ok m) : Pods.ok l := by
  obtain ⟨h1, h2, h3⟩ := hm
  have e1 := h.length_le
  have e2 := sub_sum (fun p => p.ports.length) h
  have e3 := sub_sum (fun p => p.claims.length) h
  unfold Pods.ok Small portsOf claimsOf at *
  exact ⟨by omega, by omega, by omega⟩
theorem take_key (out mid : List Pod) (r s : List D) : List.take (out.length - 0) (List.take out.length (List.map Pod.d (out ++ mid)) ++ r ++ s) = List.map Pod.d out := by
  rw [Nat.sub_zero, List.append_assoc, List.map_append, List.take_left' (by simp), List.take_left' (by simp)]
set_option maxHeartbeats 8000000 in
theorem delete_eq (n : Node) (x : Info) (p : Pod) (l1 : Small x.names) (l : List Pod) (hl : Small l) : ∃ m : List D,
    v52 [(54, v54)] [.sl 0 0 l.length, .fn (.func 54) [] [.ptr 1 0, .ptr 2 0]] [.row 37 16 ((l).map Pod.d), .box [.d (.str p.name), .d (.int .i64 (p.prio)), .d (.sl (p.labels.map Label.d)), .d (.int .i64 (p.want.cpu)), .d (.int .i64 (p.want.mem)), .d (.int .i64 (p.want.disk)), .d (.sl (p.bears.map Bear.d)), .d (.sl (p.asks.map Req.d)), .d (.sl (p.prefers.map Prefer.d)), .d (.sl (p.ports.map intD)), .d (.sl (p.near.map Term.d)), .d (.sl (p.apart.map Term.d)), .d (.sl (p.spreads.map Spread.d)), .d (.sl (p.claims.map strD)), .d (.str p.node), .d (.str p.hope)], .box [.d (.str n.name), .d (.sl (n.labels.map Label.d)), .d (.sl (n.taints.map Taint.d)), .d (.bool n.off), .d (.int .i64 (n.give.cpu)), .d (.int .i64 (n.give.mem)), .d (.int .i64 (n.give.disk)), .d (.int .i64 (n.pods)), .d (.int .i64 (n.disks)), .sl 3 0 (x).names.length, .d (.int .i64 ((x).used.cpu)), .d (.int .i64 ((x).used.mem)), .d (.int .i64 ((x).used.disk)), .sl 4 0 (x).ports.length, .sl 5 0 (x).disks.length], .row 9 1 (((x).names).map strD), .row 3 1 (((x).ports).map intD), .row 9 1 (((x).disks).map strD)] = some (.d (.sl ((staysOf x.names p l).map Pod.d)), [.fro 37 16 m, .box [.d (.str p.name), .d (.int .i64 (p.prio)), .d (.sl (p.labels.map Label.d)), .d (.int .i64 (p.want.cpu)), .d (.int .i64 (p.want.mem)), .d (.int .i64 (p.want.disk)), .d (.sl (p.bears.map Bear.d)), .d (.sl (p.asks.map Req.d)), .d (.sl (p.prefers.map Prefer.d)), .d (.sl (p.ports.map intD)), .d (.sl (p.near.map Term.d)), .d (.sl (p.apart.map Term.d)), .d (.sl (p.spreads.map Spread.d)), .d (.sl (p.claims.map strD)), .d (.str p.node), .d (.str p.hope)], .box [.d (.str n.name), .d (.sl (n.labels.map Label.d)), .d (.sl (n.taints.map Taint.d)), .d (.bool n.off), .d (.int .i64 (n.give.cpu)), .d (.int .i64 (n.give.mem)), .d (.int .i64 (n.give.disk)), .d (.int .i64 (n.pods)), .d (.int .i64 (n.disks)), .sl 3 0 (x).names.length, .d (.int .i64 ((x).used.cpu)), .d (.int .i64 ((x).used.mem)), .d (.int .i64 ((x).used.disk)), .sl 4 0 (x).ports.length, .sl 5 0 (x).disks.length], .row 9 1 (((x).names).map strD), .row 3 1 (((x).ports).map intD), .row 9 1 (((x).disks).map strD)]) := by
  have hh := hl
  unfold Small at hh
  have hf := gfind (bd := bodyAt Try.f68 2) rfl n x p l1 l hl l.length 0 (by omega)
  rw [List.drop_zero] at hf
  simp only [bodyAt, bodyOf, loop_seq, loop_cond, loop_block, loop_loop, loop_region, loop_skip, loop_ret, loop_exit, orE_some, orE_none, Code.first, Option.getD_some, Nat.reduceEqDiff, ↓reduceIte, Try.f68] at hf
  simp only [Int.cast_ofNat_Int, Nat.zero_add] at hf
  have ht := List.take_length (l := l.map Pod.d)
  rw [List.length_map] at ht
  rcases hf with ⟨a, c, b, rfl, q1, q2, hf⟩ | ⟨q1, hf⟩
  · obtain ⟨mid', e1, hd⟩ := del_loop (bd := bodyAt Try.f52 5) rfl n x p l1 (a ++ c :: b) hl b.length (a.length + 1) a [c] (by simp; omega) (by simp) (by simp)
    have e2 : (a ++ c :: b).drop (a.length + 1) = b := by
      have : a ++ c :: b = (a ++ [c]) ++ b := by simp
      rw [this, List.drop_left' (by simp)]
    have e3 : staysOf x.names p (a ++ c :: b) = a ++ staysOf x.names p b := by
      rw [stays_def, List.filter_append, List.filter_cons, q2]
      have : a.filter (fun q => !goes x.names p q) = a := by rw [List.filter_eq_self]; intro q hq; rw [q1 q hq]; rfl
      rw [this]
      rfl
    have e4 : a ++ [c] ++ b = a ++ c :: b := by simp
    rw [e2] at e1 hd
    rw [e3]
    rw [e4] at hd
    simp only [bodyAt, bodyOf, loop_seq, loop_cond, loop_block, loop_loop, loop_region, loop_skip, loop_ret, loop_exit, orE_some, orE_none, Code.first, Option.getD_some, Nat.reduceEqDiff, ↓reduceIte, Try.f52] at hd
    generalize a ++ staysOf x.names p b = out at *
    have hlen : (out ++ mid').length = (a ++ c :: b).length := by rw [List.length_append]; exact e1
    have hol : out.length ≤ (a ++ c :: b).length := by omega
    have hal : a.length < (a ++ c :: b).length := by simp
    generalize a ++ c :: b = l at *
    have w1 : IntKind.i64.wrap ((a.length : Int) + 1) = ((a.length + 1 : Nat) : Int) := by rw [wrap_i64 (by omega) (by omega)]; omega
    have w2 : ¬ (a.length : Int) = -1 := by omega
    have w3 : (0 : Int) ≤ (out.length : Int) := by omega
    have w4 : (out.length : Int) ≤ (l.length : Int) := by omega
    have w5 : (l.length : Int) ≤ (l.length : Int) := by omega
    simp only [u52, Try.f52, u68, Try.f68, hf, hd, ht, w1, w2, w3, w4, w5, take_key, sm, tys, Nat.reduceAdd, Nat.reduceSub, Nat.reduceEqDiff, Nat.reduceLeDiff, Nat.reduceLT, Nat.reduceMul, Nat.reduceBEq, ↓reduceIte, reduceCtorEq, Int.reduceLT, Int.reduceLE, Int.reduceGT, Int.reduceGE, Int.reduceBEq, Int.reduceBNe, Int.reduceEq, Int.reduceNe, Int.reduceAdd, Int.reduceSub, Int.reduceMul, Int.reduceNeg, Int.reduceToNat]
    exact ⟨_, rfl⟩
  · have e : staysOf x.names p l = l := by
      rw [stays_def, List.filter_eq_self]
      intro q hq
      rw [q1 q hq]
      rfl
    refine ⟨l.map Pod.d, ?_⟩
    rw [e]
    simp only [u52, Try.f52, u68, Try.f68, hf, ht, sm, tys, Nat.reduceAdd, Nat.reduceSub, Nat.reduceEqDiff, Nat.reduceLeDiff, Nat.reduceLT, Nat.reduceMul, Nat.reduceBEq, ↓reduceIte, reduceCtorEq, Int.reduceLT, Int.reduceLE, Int.reduceGT, Int.reduceGE, Int.reduceBEq, Int.reduceBNe, Int.reduceEq, Int.reduceNe, Int.reduceAdd, Int.reduceSub, Int.reduceMul, Int.reduceNeg, Int.reduceToNat]
end Go.Wm.Try1
namespace Go.Wm.Try1
open Go Go.Wm Go.Proofs
set_option maxHeartbeats 8000000 in
theorem drop_has (n : Node) (x : Info) (p : Pod) (l : List Pod) (hl : Pods.ok l) (h : p.name ∈ x.names) (l1 : Small x.names) :
    v26 [.agg [.d (.str n.name), .d (.sl (n.labels.map Label.d)), .d (.sl (n.taints.map Taint.d)), .d (.bool n.off), .d (.int .i64 (n.give.cpu)), .d (.int .i64 (n.give.mem)), .d (.int .i64 (n.give.disk)), .d (.int .i64 (n.pods)), .d (.int .i64 (n.disks)), .sl 0 0 (x).names.length, .d (.int .i64 ((x).used.cpu)), .d (.int .i64 ((x).used.mem)), .d (.int .i64 ((x).used.disk)), .sl 1 0 (x).ports.length, .sl 2 0 (x).disks.length], .d p.d, .d (.sl (l.map Pod.d))] [.row 9 1 (((x).names).map strD), .row 3 1 (((x).ports).map intD), .row 9 1 (((x).disks).map strD)] = some (.tup [.agg [.d (.str n.name), .d (.sl (n.labels.map Label.d)), .d (.sl (n.taints.map Taint.d)), .d (.bool n.off), .d (.int .i64 (n.give.cpu)), .d (.int .i64 (n.give.mem)), .d (.int .i64 (n.give.disk)), .d (.int .i64 (n.pods)), .d (.int .i64 (n.disks)), .sl 3 0 ((Info.of n (staysOf x.names p l))).names.length, .d (.int .i64 (((Info.of n (staysOf x.names p l))).used.cpu)), .d (.int .i64 (((Info.of n (staysOf x.names p l))).used.mem)), .d (.int .i64 (((Info.of n (staysOf x.names p l))).used.disk)), .sl 4 0 ((Info.of n (staysOf x.names p l))).ports.length, .sl 5 0 ((Info.of n (staysOf x.names p l))).disks.length], .d (.int .i64 (0))], [.row 9 1 (((x).names).map strD), .row 3 1 (((x).ports).map intD), .row 9 1 (((x).disks).map strD), .row 9 1 ((((Info.of n (staysOf x.names p l))).names).map strD), .row 3 1 ((((Info.of n (staysOf x.names p l))).ports).map intD), .row 9 1 ((((Info.of n (staysOf x.names p l))).disks).map strD)]) := by
  have hcon := contains_string x.names l1 p.name
  simp only [h, decide_true] at hcon
  have ht := List.take_length (l := x.names.map strD)
  rw [List.length_map] at ht
  have hl2 : l.length ≤ 2147483648 := by have := hl.1; unfold Small at this; omega
  have ha := all_Podd l
  obtain ⟨m, hdel⟩ := delete_eq n x p l1 l hl.1
  have hof := info_of n (staysOf x.names p l) (sub_ok (stays_sub _ _ _) hl)
  simp only [Node.d, Node.cs] at hof
  generalize Info.of n (staysOf x.names p l) = y at *
  simp only [u26, Try.f26, u53, Try.f53, Pod.d, Pod.cs, ht, hcon, ha, hl2, hdel, hof, sm, tys, Nat.reduceAdd, Nat.reduceSub, Nat.reduceEqDiff, Nat.reduceLeDiff, Nat.reduceLT, Nat.reduceMul, Nat.reduceBEq, ↓reduceIte, reduceCtorEq, Int.reduceLT, Int.reduceLE, Int.reduceGT, Int.reduceGE, Int.reduceBEq, Int.reduceBNe, Int.reduceEq, Int.reduceNe, Int.reduceAdd, Int.reduceSub, Int.reduceMul, Int.reduceNeg, Int.reduceToNat]
set_option maxHeartbeats 8000000 in
theorem drop_none (n : Node) (x : Info) (p : Pod) (l : List Pod) (hl : Pods.ok l) (h : ¬ p.name ∈ x.names) (l1 : Small x.names) :
    v26 [.agg [.d (.str n.name), .d (.sl (n.labels.map Label.d)), .d (.sl (n.taints.map Taint.d)), .d (.bool n.off), .d (.int .i64 (n.give.cpu)), .d (.int .i64 (n.give.mem)), .d (.int .i64 (n.give.disk)), .d (.int .i64 (n.pods)), .d (.int .i64 (n.disks)), .sl 0 0 (x).names.length, .d (.int .i64 ((x).used.cpu)), .d (.int .i64 ((x).used.mem)), .d (.int .i64 ((x).used.disk)), .sl 1 0 (x).ports.length, .sl 2 0 (x).disks.length], .d p.d, .d (.sl (l.map Pod.d))] [.row 9 1 (((x).names).map strD), .row 3 1 (((x).ports).map intD), .row 9 1 (((x).disks).map strD)] = some (.tup [.agg [.d (.str []), .nil, .nil, .d (.bool false), .d (.int .i64 (0)), .d (.int .i64 (0)), .d (.int .i64 (0)), .d (.int .i64 (0)), .d (.int .i64 (0)), .nil, .d (.int .i64 (0)), .d (.int .i64 (0)), .d (.int .i64 (0)), .nil, .nil], .d (.int .i64 (5))], [.row 9 1 (((x).names).map strD), .row 3 1 (((x).ports).map intD), .row 9 1 (((x).disks).map strD)]) := by
  have hcon := contains_string x.names l1 p.name
  simp only [h, decide_false] at hcon
  have ht := List.take_length (l := x.names.map strD)
  rw [List.length_map] at ht
  simp only [u26, Try.f26, Pod.d, Pod.cs, ht, hcon, sm, tys, Nat.reduceAdd, Nat.reduceSub, Nat.reduceEqDiff, Nat.reduceLeDiff, Nat.reduceLT, Nat.reduceMul, Nat.reduceBEq, ↓reduceIte, reduceCtorEq, Int.reduceLT, Int.reduceLE, Int.reduceGT, Int.reduceGE, Int.reduceBEq, Int.reduceBNe, Int.reduceEq, Int.reduceNe, Int.reduceAdd, Int.reduceSub, Int.reduceMul, Int.reduceNeg, Int.reduceToNat]
end Go.Wm.Try1
namespace Go.Wm.Try1
open Go Go.Wm Go.Proofs
set_option maxHeartbeats 8000000 in
theorem rdrop_loop {bd : Code} (hb : bd = bodyAt Try.f27 5) (x : Info) (p : Pod) (l1 : Small x.names) (l : List Pod) (hl : Small l) :
    ∀ (k i : Nat) (out : List Pod), i + k = l.length → out.length ≤ i →
    evLoop E27 0 bd [(2, .d (.sl (l.map Pod.d))), (3, .ptr 0 0), (4, .ptr 1 0), (6, .ptr 2 0), (8, .own 3 ((out).map Pod.d)), (9, .d (.int .i64 ((i : Int))))] [.box [.d (.str x.node.name), .d (.sl (x.node.labels.map Label.d)), .d (.sl (x.node.taints.map Taint.d)), .d (.bool x.node.off), .d (.int .i64 (x.node.give.cpu)), .d (.int .i64 (x.node.give.mem)), .d (.int .i64 (x.node.give.disk)), .d (.int .i64 (x.node.pods)), .d (.int .i64 (x.node.disks)), .d (.sl (x.names.map strD)), .d (.int .i64 (x.used.cpu)), .d (.int .i64 (x.used.mem)), .d (.int .i64 (x.used.disk)), .d (.sl (x.ports.map intD)), .d (.sl (x.disks.map strD))], .box [.d (.str p.name), .d (.int .i64 (p.prio)), .d (.sl (p.labels.map Label.d)), .d (.int .i64 (p.want.cpu)), .d (.int .i64 (p.want.mem)), .d (.int .i64 (p.want.disk)), .d (.sl (p.bears.map Bear.d)), .d (.sl (p.asks.map Req.d)), .d (.sl (p.prefers.map Prefer.d)), .d (.sl (p.ports.map intD)), .d (.sl (p.near.map Term.d)), .d (.sl (p.apart.map Term.d)), .d (.sl (p.spreads.map Spread.d)), .d (.sl (p.claims.map strD)), .d (.str p.node), .d (.str p.hope)], .box [.d (.str []), .nil, .nil, .d (.bool false), .d (.int .i64 (0)), .d (.int .i64 (0)), .d (.int .i64 (0)), .d (.int .i64 (0)), .d (.int .i64 (0)), .nil, .d (.int .i64 (0)), .d (.int .i64 (0)), .d (.int .i64 (0)), .nil, .nil], .tok 37 (out).length 16] = some ([(2, .d (.sl (l.map Pod.d))), (3, .ptr 0 0), (4, .ptr 1 0), (6, .ptr 2 0), (8, .own 3 (((out ++ staysOf x.names p (l.drop i))).map Pod.d)), (9, .d (.int .i64 (l.length))), (21, .d (.bool false))], [.box [.d (.str x.node.name), .d (.sl (x.node.labels.map Label.d)), .d (.sl (x.node.taints.map Taint.d)), .d (.bool x.node.off), .d (.int .i64 (x.node.give.cpu)), .d (.int .i64 (x.node.give.mem)), .d (.int .i64 (x.node.give.disk)), .d (.int .i64 (x.node.pods)), .d (.int .i64 (x.node.disks)), .d (.sl (x.names.map strD)), .d (.int .i64 (x.used.cpu)), .d (.int .i64 (x.used.mem)), .d (.int .i64 (x.used.disk)), .d (.sl (x.ports.map intD)), .d (.sl (x.disks.map strD))], .box [.d (.str p.name), .d (.int .i64 (p.prio)), .d (.sl (p.labels.map Label.d)), .d (.int .i64 (p.want.cpu)), .d (.int .i64 (p.want.mem)), .d (.int .i64 (p.want.disk)), .d (.sl (p.bears.map Bear.d)), .d (.sl (p.asks.map Req.d)), .d (.sl (p.prefers.map Prefer.d)), .d (.sl (p.ports.map intD)), .d (.sl (p.near.map Term.d)), .d (.sl (p.apart.map Term.d)), .d (.sl (p.spreads.map Spread.d)), .d (.sl (p.claims.map strD)), .d (.str p.node), .d (.str p.hope)], .box [.d (.str []), .nil, .nil, .d (.bool false), .d (.int .i64 (0)), .d (.int .i64 (0)), .d (.int .i64 (0)), .d (.int .i64 (0)), .d (.int .i64 (0)), .nil, .d (.int .i64 (0)), .d (.int .i64 (0)), .d (.int .i64 (0)), .nil, .nil], .tok 37 ((out ++ staysOf x.names p (l.drop i))).length 16], .exit 0) := by
  simp only [bodyAt, bodyOf, loop_seq, loop_cond, loop_block, loop_loop, loop_region, loop_skip, loop_ret, loop_exit, orE_some, orE_none, Code.first, Option.getD_some, Nat.reduceEqDiff, ↓reduceIte, Try.f27] at hb
  subst hb
  unfold Small at hl
  intro k
  induction k with
  | zero =>
    intro i out hk ho
    have hi : (i : Int) = (l.length : Int) := by omega
    have hd : l.drop i = [] := by rw [List.drop_eq_nil_iff]; omega
    have e : out ++ staysOf x.names p (l.drop i) = out := by rw [hd]; simp [staysOf]
    rw [c_round, e]
    simp only [u27, Try.f27, hi, Int.lt_irrefl, sm, tys, Nat.reduceAdd, Nat.reduceSub, Nat.reduceEqDiff, Nat.reduceLeDiff, Nat.reduceLT, Nat.reduceMul, Nat.reduceBEq, ↓reduceIte, reduceCtorEq, Int.reduceLT, Int.reduceLE, Int.reduceGT, Int.reduceGE, Int.reduceBEq, Int.reduceBNe, Int.reduceEq, Int.reduceNe, Int.reduceAdd, Int.reduceSub, Int.reduceMul, Int.reduceNeg, Int.reduceToNat]
  | succ k ih =>
    intro i out hk ho
    have hi : (i : Int) < (l.length : Int) := by omega
    have h0 : 0 ≤ (i : Int) := by omega
    have hlt : i < l.length := by omega
    have hci : l[i]? = some l[i] := by simp [hlt]
    have hd : l.drop i = l[i] :: l.drop (i + 1) := List.drop_eq_getElem_cons hlt
    generalize l[i] = q at hci hd
    have hw : IntKind.i64.wrap ((i : Int) + 1) = ((i + 1 : Nat) : Int) := by rw [wrap_i64 (by omega) (by omega)]; omega
    have hcon := has_eq x.names l1 q.name
    have hol : out.length + 1 ≤ 2147483648 := by omega
    have hcc : q.d.cells.length = 16 := rfl
    have htk : D.agg (List.take 16 q.d.cells) = q.d := rfl
    have ee : staysOf x.names p (q :: l.drop (i + 1)) = if goes x.names p q then staysOf x.names p (l.drop (i + 1)) else q :: staysOf x.names p (l.drop (i + 1)) := by
      rw [stays_def, List.filter_cons, stays_def]
      cases goes x.names p q <;> rfl
    by_cases h1 : q.name = p.name
    · have e : goes x.names p q = true := by simp [goes, h1]
      have e1 : staysOf x.names p (l.drop i) = staysOf x.names p (l.drop (i + 1)) := by rw [hd, ee, e]; rfl
      rw [e1, ← ih (i + 1) out (by omega) (by omega), c_round]
      simp only [u27, Try.f27, Pod.d, Pod.cs, hi, h0, hci, hw, h1, sm, tys, Nat.reduceAdd, Nat.reduceSub, Nat.reduceEqDiff, Nat.reduceLeDiff, Nat.reduceLT, Nat.reduceMul, Nat.reduceBEq, ↓reduceIte, reduceCtorEq, Int.reduceLT, Int.reduceLE, Int.reduceGT, Int.reduceGE, Int.reduceBEq, Int.reduceBNe, Int.reduceEq, Int.reduceNe, Int.reduceAdd, Int.reduceSub, Int.reduceMul, Int.reduceNeg, Int.reduceToNat]
    · by_cases h2 : q.name ∈ x.names
      · have e : goes x.names p q = false := by simp [goes, h1, h2]
        have e1 : out ++ staysOf x.names p (l.drop i) = out ++ [q] ++ staysOf x.names p (l.drop (i + 1)) := by rw [hd, ee, e]; simp
        have hih := ih (i + 1) (out ++ [q]) (by omega) (by simp; omega)
        rw [e1, ← hih, c_round]
        simp only [h2, decide_true] at hcon
        simp only [u27, Try.f27, Pod.d, Pod.cs, hi, h0, hci, hw, h1, hcon, hol, List.map_append, List.length_append, sm, tys, Nat.reduceAdd, Nat.reduceSub, Nat.reduceEqDiff, Nat.reduceLeDiff, Nat.reduceLT, Nat.reduceMul, Nat.reduceBEq, ↓reduceIte, reduceCtorEq, Int.reduceLT, Int.reduceLE, Int.reduceGT, Int.reduceGE, Int.reduceBEq, Int.reduceBNe, Int.reduceEq, Int.reduceNe, Int.reduceAdd, Int.reduceSub, Int.reduceMul, Int.reduceNeg, Int.reduceToNat]
      · have e : goes x.names p q = true := by simp [goes, h1, h2]
        have e1 : staysOf x.names p (l.drop i) = staysOf x.names p (l.drop (i + 1)) := by rw [hd, ee, e]; rfl
        rw [e1, ← ih (i + 1) out (by omega) (by omega), c_round]
        simp only [h2, decide_false] at hcon
        simp only [u27, Try.f27, Pod.d, Pod.cs, hi, h0, hci, hw, h1, hcon, sm, tys, Nat.reduceAdd, Nat.reduceSub, Nat.reduceEqDiff, Nat.reduceLeDiff, Nat.reduceLT, Nat.reduceMul, Nat.reduceBEq, ↓reduceIte, reduceCtorEq, Int.reduceLT, Int.reduceLE, Int.reduceGT, Int.reduceGE, Int.reduceBEq, Int.reduceBNe, Int.reduceEq, Int.reduceNe, Int.reduceAdd, Int.reduceSub, Int.reduceMul, Int.reduceNeg, Int.reduceToNat]
set_option maxHeartbeats 8000000 in
theorem rdrop_has (x : Info) (p : Pod) (l : List Pod) (hl : Pods.ok l) (h : p.name ∈ x.names) (l1 : Small x.names) :
    v27 [.d x.d, .d p.d, .d (.sl (l.map Pod.d))] [] = some (.tup [.d (Info.of x.node (staysOf x.names p l)).d, .d (.int .i64 (0))], []) := by
  have hcon := has_eq x.names l1 p.name
  simp only [h, decide_true] at hcon
  have hloop := rdrop_loop (bd := bodyAt Try.f27 5) rfl x p l1 l hl.1 l.length 0 [] (by omega) (by simp)
  rw [List.drop_zero] at hloop
  simp only [bodyAt, bodyOf, loop_seq, loop_cond, loop_block, loop_loop, loop_region, loop_skip, loop_ret, loop_exit, orE_some, orE_none, Code.first, Option.getD_some, Nat.reduceEqDiff, ↓reduceIte, Try.f27] at hloop
  simp only [Int.cast_ofNat_Int, List.map_nil, List.length_nil, List.nil_append] at hloop
  have hof := rof_eq x.node (staysOf x.names p l) (sub_ok (stays_sub _ _ _) hl)
  simp only [Node.d, Node.cs] at hof
  generalize staysOf x.names p l = m at *
  generalize hy : Info.of x.node m = y at *
  have ht := List.take_length (l := m.map Pod.d)
  rw [List.length_map] at ht
  simp only [Info.d, Info.cs, Node.cs, List.cons_append, List.nil_append] at hof
  simp only [u27, Try.f27, Info.d, Info.cs, Node.d, Node.cs, Pod.d, Pod.cs, hcon, hloop, hof, ht, sm, tys, Nat.reduceAdd, Nat.reduceSub, Nat.reduceEqDiff, Nat.reduceLeDiff, Nat.reduceLT, Nat.reduceMul, Nat.reduceBEq, ↓reduceIte, reduceCtorEq, Int.reduceLT, Int.reduceLE, Int.reduceGT, Int.reduceGE, Int.reduceBEq, Int.reduceBNe, Int.reduceEq, Int.reduceNe, Int.reduceAdd, Int.reduceSub, Int.reduceMul, Int.reduceNeg, Int.reduceToNat]
set_option maxHeartbeats 8000000 in
theorem rdrop_none (x : Info) (p : Pod) (l : List Pod) (h : ¬ p.name ∈ x.names) (l1 : Small x.names) :
    v27 [.d x.d, .d p.d, .d (.sl (l.map Pod.d))] [] = some (.tup [.d Info.zero.d, .d (.int .i64 (5))], []) := by
  have hcon := has_eq x.names l1 p.name
  simp only [h, decide_false] at hcon
  simp only [u27, Try.f27, Info.d, Info.cs, Node.cs, Pod.d, Pod.cs, hcon, Info.zero, sm, tys, Nat.reduceAdd, Nat.reduceSub, Nat.reduceEqDiff, Nat.reduceLeDiff, Nat.reduceLT, Nat.reduceMul, Nat.reduceBEq, ↓reduceIte, reduceCtorEq, Int.reduceLT, Int.reduceLE, Int.reduceGT, Int.reduceGE, Int.reduceBEq, Int.reduceBNe, Int.reduceEq, Int.reduceNe, Int.reduceAdd, Int.reduceSub, Int.reduceMul, Int.reduceNeg, Int.reduceToNat]
end Go.Wm.Try1
namespace Go.Wm.Try1
open Go Go.Wm Go.Proofs
/-- one pod more has room -/
def Fits (l : List Pod) (p : Pod) : Prop := l.length + 1 ≤ 1073741824 ∧ portsOf l + p.ports.length ≤ 1073741824 ∧ claimsOf l + p.claims.length ≤ 1073741824
theorem fits_of {l : List Pod} {p : Pod} (a : l.length ≤ 1048576) (b : portsOf l + claimsOf l ≤ 1048576) (c : p.ports.length ≤ 1048576) (d : p.claims.length ≤ 1048576) : Fits l p := by
  unfold Fits
  refine And.intro ?_ (And.intro ?_ ?_) <;> omega
theorem pod_lens (p : Pod) : p.ports.length ≤ p.d.bulk ∧ p.claims.length ≤ p.d.bulk := by
  have h3 := D.bulkL_length (p.ports.map intD)
  have h4 := D.bulkL_length (p.claims.map strD)
  rw [List.length_map] at h3 h4
  have e : p.d.bulk = D.bulkL p.cs + 1 := by simp only [Pod.d, D.bulk]
  rw [e]
  simp only [Pod.cs, D.bulk, D.bulkL]
  constructor <;> omega
theorem fits_bulk (l : List Pod) (p : Pod) (h : D.bulkL (l.map Pod.d) ≤ 1048576) (hp : p.d.bulk ≤ 1048576) : Fits l p := by
  have h1 := pods_sums l
  have h2 := D.bulkL_length (l.map Pod.d)
  rw [List.length_map] at h2
  obtain ⟨h3, h4⟩ := pod_lens p
  exact fits_of (Nat.le_trans h2 h) (Nat.le_trans h1 h) (Nat.le_trans h3 hp) (Nat.le_trans h4 hp)
set_option maxHeartbeats 4000000 in
theorem spoil_zero : v16 [.d Info.zero.d] [] = some (.tup [], []) := by
  have e1 : evLoop E16 0 (bodyAt Try.f16 2) [(1, .ptr 0 0), (2, .d (.int .i64 (0)))] [.box [.d (.str []), .d (.sl []), .d (.sl []), .d (.bool false), .d (.int .i64 (0)), .d (.int .i64 (0)), .d (.int .i64 (0)), .d (.int .i64 (0)), .d (.int .i64 (0)), .d (.sl []), .d (.int .i64 (0)), .d (.int .i64 (0)), .d (.int .i64 (0)), .d (.sl []), .d (.sl [])]] = some ([(1, .ptr 0 0), (2, .d (.int .i64 (0))), (9, .d (.bool false))], [.box [.d (.str []), .d (.sl []), .d (.sl []), .d (.bool false), .d (.int .i64 (0)), .d (.int .i64 (0)), .d (.int .i64 (0)), .d (.int .i64 (0)), .d (.int .i64 (0)), .d (.sl []), .d (.int .i64 (0)), .d (.int .i64 (0)), .d (.int .i64 (0)), .d (.sl []), .d (.sl [])]], .exit 0) := by
    simp only [bodyAt, bodyOf, loop_seq, loop_cond, loop_block, loop_loop, loop_region, loop_skip, loop_ret, loop_exit, orE_some, orE_none, Code.first, Option.getD_some, Nat.reduceEqDiff, ↓reduceIte, Try.f16]
    rw [c_round]
    simp only [u16, Try.f16, sm, tys, Nat.reduceAdd, Nat.reduceSub, Nat.reduceEqDiff, Nat.reduceLeDiff, Nat.reduceLT, Nat.reduceMul, Nat.reduceBEq, ↓reduceIte, reduceCtorEq, Int.reduceLT, Int.reduceLE, Int.reduceGT, Int.reduceGE, Int.reduceBEq, Int.reduceBNe, Int.reduceEq, Int.reduceNe, Int.reduceAdd, Int.reduceSub, Int.reduceMul, Int.reduceNeg, Int.reduceToNat]
  have e2 : evLoop E16 0 (bodyAt Try.f16 6) [(1, .ptr 0 0), (3, .d (.int .i64 (0)))] [.box [.d (.str []), .d (.sl []), .d (.sl []), .d (.bool false), .d (.int .i64 (0)), .d (.int .i64 (0)), .d (.int .i64 (0)), .d (.int .i64 (0)), .d (.int .i64 (0)), .d (.sl []), .d (.int .i64 (0)), .d (.int .i64 (0)), .d (.int .i64 (0)), .d (.sl []), .d (.sl [])]] = some ([(1, .ptr 0 0), (3, .d (.int .i64 (0))), (20, .d (.bool false))], [.box [.d (.str []), .d (.sl []), .d (.sl []), .d (.bool false), .d (.int .i64 (0)), .d (.int .i64 (0)), .d (.int .i64 (0)), .d (.int .i64 (0)), .d (.int .i64 (0)), .d (.sl []), .d (.int .i64 (0)), .d (.int .i64 (0)), .d (.int .i64 (0)), .d (.sl []), .d (.sl [])]], .exit 2) := by
    simp only [bodyAt, bodyOf, loop_seq, loop_cond, loop_block, loop_loop, loop_region, loop_skip, loop_ret, loop_exit, orE_some, orE_none, Code.first, Option.getD_some, Nat.reduceEqDiff, ↓reduceIte, Try.f16]
    rw [c_round]
    simp only [u16, Try.f16, sm, tys, Nat.reduceAdd, Nat.reduceSub, Nat.reduceEqDiff, Nat.reduceLeDiff, Nat.reduceLT, Nat.reduceMul, Nat.reduceBEq, ↓reduceIte, reduceCtorEq, Int.reduceLT, Int.reduceLE, Int.reduceGT, Int.reduceGE, Int.reduceBEq, Int.reduceBNe, Int.reduceEq, Int.reduceNe, Int.reduceAdd, Int.reduceSub, Int.reduceMul, Int.reduceNeg, Int.reduceToNat]
  have e3 : evLoop E16 0 (bodyAt Try.f16 10) [(1, .ptr 0 0), (4, .d (.int .i64 (0)))] [.box [.d (.str []), .d (.sl []), .d (.sl []), .d (.bool false), .d (.int .i64 (0)), .d (.int .i64 (0)), .d (.int .i64 (0)), .d (.int .i64 (0)), .d (.int .i64 (0)), .d (.sl []), .d (.int .i64 (0)), .d (.int .i64 (0)), .d (.int .i64 (0)), .d (.sl []), .d (.sl [])]] = some ([(1, .ptr 0 0), (4, .d (.int .i64 (0))), (31, .d (.bool false))], [.box [.d (.str []), .d (.sl []), .d (.sl []), .d (.bool false), .d (.int .i64 (0)), .d (.int .i64 (0)), .d (.int .i64 (0)), .d (.int .i64 (0)), .d (.int .i64 (0)), .d (.sl []), .d (.int .i64 (0)), .d (.int .i64 (0)), .d (.int .i64 (0)), .d (.sl []), .d (.sl [])]], .exit 4) := by
    simp only [bodyAt, bodyOf, loop_seq, loop_cond, loop_block, loop_loop, loop_region, loop_skip, loop_ret, loop_exit, orE_some, orE_none, Code.first, Option.getD_some, Nat.reduceEqDiff, ↓reduceIte, Try.f16]
    rw [c_round]
    simp only [u16, Try.f16, sm, tys, Nat.reduceAdd, Nat.reduceSub, Nat.reduceEqDiff, Nat.reduceLeDiff, Nat.reduceLT, Nat.reduceMul, Nat.reduceBEq, ↓reduceIte, reduceCtorEq, Int.reduceLT, Int.reduceLE, Int.reduceGT, Int.reduceGE, Int.reduceBEq, Int.reduceBNe, Int.reduceEq, Int.reduceNe, Int.reduceAdd, Int.reduceSub, Int.reduceMul, Int.reduceNeg, Int.reduceToNat]
  simp only [bodyAt, bodyOf, loop_seq, loop_cond, loop_block, loop_loop, loop_region, loop_skip, loop_ret, loop_exit, orE_some, orE_none, Code.first, Option.getD_some, Nat.reduceEqDiff, ↓reduceIte, Try.f16] at e1 e2 e3
  simp only [u16, Try.f16, Info.zero, Info.d, Info.cs, Node.cs, List.cons_append, List.nil_append, List.map_nil, e1, e2, e3, sm, tys, Nat.reduceAdd, Nat.reduceSub, Nat.reduceEqDiff, Nat.reduceLeDiff, Nat.reduceLT, Nat.reduceMul, Nat.reduceBEq, ↓reduceIte, reduceCtorEq, Int.reduceLT, Int.reduceLE, Int.reduceGT, Int.reduceGE, Int.reduceBEq, Int.reduceBNe, Int.reduceEq, Int.reduceNe, Int.reduceAdd, Int.reduceSub, Int.reduceMul, Int.reduceNeg, Int.reduceToNat]
set_option maxHeartbeats 8000000 in
theorem turns_eq (n : Node) (l : List Pod) (p : Pod) (r : List Pod) (hn : n.ok) (hl : Pods.ok l) (ha : Pods.all l) (hp : p.ok) (hr : Pods.ok r) (hra : Pods.all r) (hf : Fits l p) : v5 [.d n.d, .d (.sl (l.map Pod.d)), .d p.d, .d (.sl (r.map Pod.d))] [] = some (.d (.bool true), []) := by
  have h1 := info_of n l hl
  have h2 := rof_eq n l hl
  have h3 := pod_eq p hp
  have h4 := pods_eq r hr.1 hra
  have hx := info_ok n hn l hl
  have h12 := info_node n l
  have hg := info_good n l
  obtain ⟨k1, k2, k3⟩ := info_len n l
  unfold Fits at hf
  obtain ⟨f1, f2, f3⟩ := hf
  generalize Info.of n l = x at *
  have l1 : Small x.names := by unfold Small; omega
  have l2 : x.ports.length + p.ports.length ≤ 1073741824 := by omega
  have l3 : x.disks.length + p.claims.length ≤ 1073741824 := by omega
  have h5 := sameInfo x hx
  have hw := works_eq
  have t1 := List.take_length (l := x.names.map strD)
  have t2 := List.take_length (l := x.ports.map intD)
  have t3 := List.take_length (l := x.disks.map strD)
  rw [List.length_map] at t1 t2 t3
  have hz := sameInfo Info.zero (by unfold Info.ok Node.ok Small Info.zero; simp)
  have hsz := spoil_zero
  have hok : ∀ y : Info, y.node = n → Small y.names → Small y.ports → Small y.disks → y.ok := fun y e q1 q2 q3 => ⟨by rw [e]; exact hn, q1, q2, q3⟩
  subst h12
  by_cases hm : p.name ∈ x.names
  · have a1 := add_same x.node x p hm l1
    have a2 := radd_same x p hm l1
    have d1 := drop_has x.node x p r hr hm l1
    have d2 := rdrop_has x p r hr hm l1
    have hy := info_ok x.node hn (staysOf x.names p r) (sub_ok (stays_sub _ _ _) hr)
    have hyn := info_node x.node (staysOf x.names p r)
    generalize Info.of x.node (staysOf x.names p r) = y at *
    have hys := sameInfo y hy
    obtain ⟨b1, b2, b3, e1, e2, e3, hsp⟩ := spoil_eq x.node y.used y.names y.disks y.ports hy.2.1 hy.2.2.1 hy.2.2.2
    have u1 := List.take_length (l := y.names.map strD)
    have u2 := List.take_length (l := y.ports.map intD)
    have u3 := List.take_length (l := y.disks.map strD)
    rw [List.length_map] at u1 u2 u3
    simp only [Info.zero, Info.d, Info.cs, hyn, Node.d, Node.cs, Pod.d, Pod.cs, List.map_nil, List.cons_append, List.nil_append] at h1 h2 h3 h5 hz hsz a1 a2 d1 d2 hys
    simp only [u5, Try.f5, Info.zero, Info.d, Info.cs, Node.d, Node.cs, Pod.d, Pod.cs, h1, h2, h3, h4, h5, hz, hsz, a1, a2, d1, d2, hys, hsp, hw, t1, t2, t3, u1, u2, u3, sm, tys, Nat.reduceAdd, Nat.reduceSub, Nat.reduceEqDiff, Nat.reduceLeDiff, Nat.reduceLT, Nat.reduceMul, Nat.reduceBEq, ↓reduceIte, reduceCtorEq, Int.reduceLT, Int.reduceLE, Int.reduceGT, Int.reduceGE, Int.reduceBEq, Int.reduceBNe, Int.reduceEq, Int.reduceNe, Int.reduceAdd, Int.reduceSub, Int.reduceMul, Int.reduceNeg, Int.reduceToNat]
  · have a1 := add_new x.node x p hg hm l1 l2 l3
    have a2 := radd_new x p hg hm (by omega) l2 l3
    have d1 := drop_none x.node x p r hr hm l1
    have d2 := rdrop_none x p r hm l1
    have hyn : (x.plus p).node = x.node := rfl
    have o1 := putO_le ordS x.names p.name
    have o2 := putsO_le ordI p.ports x.ports
    have o3 := putsO_le ordS p.claims x.disks
    have hy : (x.plus p).ok := ⟨hn, by unfold Small Info.plus; dsimp only; omega, by unfold Small Info.plus; dsimp only; omega, by unfold Small Info.plus; dsimp only; omega⟩
    generalize x.plus p = y at *
    have hys := sameInfo y hy
    obtain ⟨b1, b2, b3, e1, e2, e3, hsp⟩ := spoil_eq x.node y.used y.names y.disks y.ports hy.2.1 hy.2.2.1 hy.2.2.2
    have u1 := List.take_length (l := y.names.map strD)
    have u2 := List.take_length (l := y.ports.map intD)
    have u3 := List.take_length (l := y.disks.map strD)
    rw [List.length_map] at u1 u2 u3
    simp only [Info.zero, Info.d, Info.cs, hyn, Node.d, Node.cs, Pod.d, Pod.cs, List.map_nil, List.cons_append, List.nil_append] at h1 h2 h3 h5 hz hsz a1 a2 d1 d2 hys
    simp only [u5, Try.f5, Info.zero, Info.d, Info.cs, Node.d, Node.cs, Pod.d, Pod.cs, h1, h2, h3, h4, h5, hz, hsz, a1, a2, d1, d2, hys, hsp, hw, t1, t2, t3, u1, u2, u3, sm, tys, Nat.reduceAdd, Nat.reduceSub, Nat.reduceEqDiff, Nat.reduceLeDiff, Nat.reduceLT, Nat.reduceMul, Nat.reduceBEq, ↓reduceIte, reduceCtorEq, Int.reduceLT, Int.reduceLE, Int.reduceGT, Int.reduceGE, Int.reduceBEq, Int.reduceBNe, Int.reduceEq, Int.reduceNe, Int.reduceAdd, Int.reduceSub, Int.reduceMul, Int.reduceNeg, Int.reduceToNat]
end Go.Wm.Try1
