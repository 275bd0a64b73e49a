/-
  A part of the proof: an abstract run of the program, shown to be what the model does, and what it comes to.
-/
import Derived.Test.YthpomdmjckdknaaME
set_option linter.unusedSectionVars false
set_option linter.unnecessarySimpa false
set_option maxRecDepth 100000
set_option linter.unusedVariables false
set_option linter.unusedSimpArgs false
set_option linter.defProp false
namespace Go.Wm.Try1
open Go Go.Wm Go.Proofs
theorem ports_snoc (l : List Pod) (p : Pod) : portsOf (l ++ [p]) = portsOf l + p.ports.length := by simp [portsOf]
theorem claims_snoc (l : List Pod) (p : Pod) : claimsOf (l ++ [p]) = claimsOf l + p.claims.length := by simp [claimsOf]
theorem fits_ok (l : List Pod) (p : Pod) (h : Fits l p) : Pods.ok (l ++ [p]) := by
  unfold Fits at h
  obtain ⟨h1, h2, h3⟩ := h
  unfold Pods.ok Small
  rw [ports_snoc, claims_snoc, List.length_append]
  exact ⟨by simpa using h1, h2, h3⟩
set_option maxHeartbeats 8000000 in
theorem back_eq (n : Node) (l : List Pod) (p : Pod) (hn : n.ok) (hl : Pods.ok l) (ha : Pods.all l) (hp : p.ok) (hf : Fits l p) : v6 [.d n.d, .d (.sl (l.map Pod.d)), .d p.d] [] = some (.d (.bool true), []) := by
  have h1 := info_of n l hl
  have h4 := pods_eq l hl.1 ha
  have hx := info_ok n hn l hl
  have h12 := info_node n l
  have hg := info_good n l
  obtain ⟨k1, k2, k3⟩ := info_len n l
  have hst := stays_back n l p
  have hok := fits_ok l p hf
  unfold Fits at hf
  obtain ⟨f1, f2, f3⟩ := hf
  generalize hxd : Info.of n l = x at *
  have l1 : Small x.names := by unfold Small; omega
  have l2 : x.ports.length + p.ports.length ≤ 1073741824 := by omega
  have l3 : x.disks.length + p.claims.length ≤ 1073741824 := by omega
  have h5 := sameInfo x hx
  have hw := works_eq
  have t1 := List.take_length (l := x.names.map strD)
  have t2 := List.take_length (l := x.ports.map intD)
  have t3 := List.take_length (l := x.disks.map strD)
  rw [List.length_map] at t1 t2 t3
  have hh := has_eq x.names l1 p.name
  subst h12
  by_cases hm : p.name ∈ x.names
  · have a1 := add_same x.node x p hm l1
    simp only [hm, decide_true] at hh
    simp only [Info.d, Info.cs, Node.d, Node.cs, Pod.d, Pod.cs, List.cons_append, List.nil_append] at h1 h5 a1
    simp only [u6, Try.f6, Info.d, Info.cs, Node.d, Node.cs, Pod.d, Pod.cs, h1, h5, hh, a1, hw, t1, t2, t3, sm, tys, Nat.reduceAdd, Nat.reduceSub, Nat.reduceEqDiff, Nat.reduceLeDiff, Nat.reduceLT, Nat.reduceMul, Nat.reduceBEq, ↓reduceIte, reduceCtorEq, Int.reduceLT, Int.reduceLE, Int.reduceGT, Int.reduceGE, Int.reduceBEq, Int.reduceBNe, Int.reduceEq, Int.reduceNe, Int.reduceAdd, Int.reduceSub, Int.reduceMul, Int.reduceNeg, Int.reduceToNat]
  · have a1 := add_new x.node x p hg hm l1 l2 l3
    have o1 := putO_le ordS x.names p.name
    have o2 := putsO_le ordI p.ports x.ports
    have o3 := putsO_le ordS p.claims x.disks
    have hyn : (x.plus p).node = x.node := rfl
    have hin : p.name ∈ (x.plus p).names := (mem_putO _ _ _ _).2 (Or.inr rfl)
    have m1 : Small (x.plus p).names := by unfold Small Info.plus; dsimp only; omega
    have d1 := drop_has x.node (x.plus p) p (l ++ [p]) hok hin m1
    rw [hst hm, hxd] at d1
    have hh2 := has_eq (x.plus p).names m1 p.name
    generalize x.plus p = y at *
    simp only [hin, decide_true] at hh2
    have u1 := List.take_length (l := y.names.map strD)
    have u2 := List.take_length (l := y.ports.map intD)
    have u3 := List.take_length (l := y.disks.map strD)
    rw [List.length_map] at u1 u2 u3
    have hl2 : l.length + 1 ≤ 2147483648 := by omega
    simp only [List.map_append, List.map_cons, List.map_nil, Info.d, Info.cs, Node.d, Node.cs, Pod.d, Pod.cs, List.cons_append, List.nil_append] at h1 h5 a1 d1
    simp only [u6, Try.f6, Info.d, Info.cs, Node.d, Node.cs, Pod.d, Pod.cs, h1, h4, h5, hh2, hl2, a1, d1, hw, t1, t2, t3, u1, u2, u3, sm, tys, Nat.reduceAdd, Nat.reduceSub, Nat.reduceEqDiff, Nat.reduceLeDiff, Nat.reduceLT, Nat.reduceMul, Nat.reduceBEq, ↓reduceIte, reduceCtorEq, Int.reduceLT, Int.reduceLE, Int.reduceGT, Int.reduceGE, Int.reduceBEq, Int.reduceBNe, Int.reduceEq, Int.reduceNe, Int.reduceAdd, Int.reduceSub, Int.reduceMul, Int.reduceNeg, Int.reduceToNat]
end Go.Wm.Try1
namespace Go.Wm.Try1
open Go Go.Wm Go.Proofs
theorem len_bulk (l : List Pod) (h : D.bulkL (l.map Pod.d) ≤ 1048576) : l.length + 1 ≤ 1073741824 := by
  have h2 := D.bulkL_length (l.map Pod.d)
  rw [List.length_map] at h2
  have := Nat.le_trans h2 h
  omega
theorem u64_nn (t : Int) : 0 ≤ IntKind.u64.wrap t := by
  simp only [IntKind.wrap, IntKind.bits, IntKind.signed]
  simp
  omega
theorem among_eq (t : Int) (m : Nat) (h : 0 < m) (h2 : m ≤ 2147483648) : ∃ k : Nat, k < m ∧ v22 [.d (.int .i64 (t)), .d (.int .i64 ((m : Int)))] [] = some (.d (.int .i64 ((k : Int))), []) := by
  have hm : IntKind.u64.wrap (m : Int) = (m : Int) := wrap_u64 (by omega) (by omega)
  have hm0 : ¬ (m : Int) = 0 := by omega
  have ht := u64_nn t
  generalize hz : IntKind.u64.wrap t = z at ht
  have h3 : 0 ≤ z.tmod (m : Int) := Int.tmod_nonneg _ ht
  have h4 : z.tmod (m : Int) < (m : Int) := Int.tmod_lt_of_pos _ (by omega)
  refine ⟨(z.tmod (m : Int)).toNat, by omega, ?_⟩
  have hw : IntKind.i64.wrap (z.tmod (m : Int)) = (((z.tmod (m : Int)).toNat : Nat) : Int) := by rw [wrap_i64 (by omega) (by omega)]; omega
  simp only [u22, Try.f22, hz, hm, hm0, hw, sm, tys, Nat.reduceAdd, Nat.reduceSub, Nat.reduceEqDiff, Nat.reduceLeDiff, Nat.reduceLT, Nat.reduceMul, Nat.reduceBEq, ↓reduceIte, reduceCtorEq, Int.reduceLT, Int.reduceLE, Int.reduceGT, Int.reduceGE, Int.reduceBEq, Int.reduceBNe, Int.reduceEq, Int.reduceNe, Int.reduceAdd, Int.reduceSub, Int.reduceMul, Int.reduceNeg, Int.reduceToNat]
set_option maxHeartbeats 4000000 in
theorem order_sum {bd : Code} (hb : bd = bodyAt Try.f4 5) (n : Node) (t : Int) (l : List Pod) (hl : Small l) : ∀ (k i : Nat) (s : Res), i + k = l.length →
    evLoop E4 0 bd [(1, .d (.sl (l.map Pod.d))), (2, .d (.int .i64 (t))), (3, .ptr 0 0), (7, .ptr 1 0), (8, .d (.int .i64 ((i : Int))))] [.box [.d (.str n.name), .d (.sl (n.labels.map Label.d)), .d (.sl (n.taints.map Taint.d)), .d (.bool n.off), .d (.int .i64 (n.give.cpu)), .d (.int .i64 (n.give.mem)), .d (.int .i64 (n.give.disk)), .d (.int .i64 (n.pods)), .d (.int .i64 (n.disks))], .box [.d (.int .i64 (s.cpu)), .d (.int .i64 (s.mem)), .d (.int .i64 (s.disk))]] = some ([(1, .d (.sl (l.map Pod.d))), (2, .d (.int .i64 (t))), (3, .ptr 0 0), (7, .ptr 1 0), (8, .d (.int .i64 (l.length))), (23, .d (.bool false))], [.box [.d (.str n.name), .d (.sl (n.labels.map Label.d)), .d (.sl (n.taints.map Taint.d)), .d (.bool n.off), .d (.int .i64 (n.give.cpu)), .d (.int .i64 (n.give.mem)), .d (.int .i64 (n.give.disk)), .d (.int .i64 (n.pods)), .d (.int .i64 (n.disks))], .box [.d (.int .i64 (((l.drop i).foldl (fun r p => r.add p.want) s).cpu)), .d (.int .i64 (((l.drop i).foldl (fun r p => r.add p.want) s).mem)), .d (.int .i64 (((l.drop i).foldl (fun r p => r.add p.want) s).disk))]], .exit 0) := by
  simp only [bodyAt, bodyOf, loop_seq, loop_cond, loop_block, loop_loop, loop_region, loop_skip, loop_ret, loop_exit, orE_some, orE_none, Code.first, Option.getD_some, Nat.reduceEqDiff, ↓reduceIte, Try.f4] at hb
  subst hb
  unfold Small at hl
  intro k
  induction k with
  | zero =>
    intro i s hk
    have hi : (i : Int) = (l.length : Int) := by omega
    have hd : l.drop i = [] := by rw [List.drop_eq_nil_iff]; omega
    rw [c_round, hd]
    simp only [u4, Try.f4, hi, List.foldl_nil, Int.lt_irrefl, sm, tys, Nat.reduceAdd, Nat.reduceSub, Nat.reduceEqDiff, Nat.reduceLeDiff, Nat.reduceLT, Nat.reduceMul, Nat.reduceBEq, ↓reduceIte, reduceCtorEq, Int.reduceLT, Int.reduceLE, Int.reduceGT, Int.reduceGE, Int.reduceBEq, Int.reduceBNe, Int.reduceEq, Int.reduceNe, Int.reduceAdd, Int.reduceSub, Int.reduceMul, Int.reduceNeg, Int.reduceToNat]
  | succ k ih =>
    intro i s hk
    have hi : (i : Int) < (l.length : Int) := by omega
    have h0 : 0 ≤ (i : Int) := by omega
    have hlt : i < l.length := by omega
    have hci : l[i]? = some l[i] := by simp [hlt]
    have hd : l.drop i = l[i] :: l.drop (i + 1) := List.drop_eq_getElem_cons hlt
    generalize l[i] = q at hci hd
    have hw : IntKind.i64.wrap ((i : Int) + 1) = ((i + 1 : Nat) : Int) := by rw [wrap_i64 (by omega) (by omega)]; omega
    have hp := plus_eq s q.want
    simp only [Res.d] at hp
    rw [hd, List.foldl_cons, ← ih (i + 1) (s.add q.want) (by omega), c_round]
    simp only [u4, Try.f4, Pod.d, Pod.cs, hi, h0, hci, hw, hp, sm, tys, Nat.reduceAdd, Nat.reduceSub, Nat.reduceEqDiff, Nat.reduceLeDiff, Nat.reduceLT, Nat.reduceMul, Nat.reduceBEq, ↓reduceIte, reduceCtorEq, Int.reduceLT, Int.reduceLE, Int.reduceGT, Int.reduceGE, Int.reduceBEq, Int.reduceBNe, Int.reduceEq, Int.reduceNe, Int.reduceAdd, Int.reduceSub, Int.reduceMul, Int.reduceNeg, Int.reduceToNat]
set_option maxHeartbeats 4000000 in
theorem order_names {bd : Code} (hb : bd = bodyAt Try.f4 12) (n : Node) (t : Int) (l : List Pod) (hl : Small l) : ∀ (k i : Nat) (out : List Str), i + k = l.length → out.length = i → out.Nodup →
    (∃ S, evLoop E4 0 bd [(1, .d (.sl (l.map Pod.d))), (2, .d (.int .i64 (t))), (3, .ptr 0 0), (9, .own 1 (out.map strD)), (10, .d (.int .i64 ((i : Int))))] [.box [.d (.str n.name), .d (.sl (n.labels.map Label.d)), .d (.sl (n.taints.map Taint.d)), .d (.bool n.off), .d (.int .i64 (n.give.cpu)), .d (.int .i64 (n.give.mem)), .d (.int .i64 (n.give.disk)), .d (.int .i64 (n.pods)), .d (.int .i64 (n.disks))], .tok 9 out.length 1] = some ([(6, .d (.bool true))], S, .ret)) ∨
    ((out ++ (l.drop i).map Pod.name).Nodup ∧ evLoop E4 0 bd [(1, .d (.sl (l.map Pod.d))), (2, .d (.int .i64 (t))), (3, .ptr 0 0), (9, .own 1 (out.map strD)), (10, .d (.int .i64 ((i : Int))))] [.box [.d (.str n.name), .d (.sl (n.labels.map Label.d)), .d (.sl (n.taints.map Taint.d)), .d (.bool n.off), .d (.int .i64 (n.give.cpu)), .d (.int .i64 (n.give.mem)), .d (.int .i64 (n.give.disk)), .d (.int .i64 (n.pods)), .d (.int .i64 (n.disks))], .tok 9 out.length 1] = some ([(1, .d (.sl (l.map Pod.d))), (2, .d (.int .i64 (t))), (3, .ptr 0 0), (9, .own 1 ((out ++ (l.drop i).map Pod.name).map strD)), (10, .d (.int .i64 (l.length))), (50, .d (.bool false))], [.box [.d (.str n.name), .d (.sl (n.labels.map Label.d)), .d (.sl (n.taints.map Taint.d)), .d (.bool n.off), .d (.int .i64 (n.give.cpu)), .d (.int .i64 (n.give.mem)), .d (.int .i64 (n.give.disk)), .d (.int .i64 (n.pods)), .d (.int .i64 (n.disks))], .tok 9 (out ++ (l.drop i).map Pod.name).length 1], .exit 2)) := by
  simp only [bodyAt, bodyOf, loop_seq, loop_cond, loop_block, loop_loop, loop_region, loop_skip, loop_ret, loop_exit, orE_some, orE_none, Code.first, Option.getD_some, Nat.reduceEqDiff, ↓reduceIte, Try.f4] at hb
  subst hb
  unfold Small at hl
  intro k
  induction k with
  | zero =>
    intro i out hk ho hn
    have hi : (i : Int) = (l.length : Int) := by omega
    have hd : l.drop i = [] := by rw [List.drop_eq_nil_iff]; omega
    rw [c_round, hd, List.map_nil, List.append_nil]
    refine Or.inr ⟨hn, ?_⟩
    simp only [u4, Try.f4, hi, Int.lt_irrefl, sm, tys, Nat.reduceAdd, Nat.reduceSub, Nat.reduceEqDiff, Nat.reduceLeDiff, Nat.reduceLT, Nat.reduceMul, Nat.reduceBEq, ↓reduceIte, reduceCtorEq, Int.reduceLT, Int.reduceLE, Int.reduceGT, Int.reduceGE, Int.reduceBEq, Int.reduceBNe, Int.reduceEq, Int.reduceNe, Int.reduceAdd, Int.reduceSub, Int.reduceMul, Int.reduceNeg, Int.reduceToNat]
  | succ k ih =>
    intro i out hk ho hn
    have hi : (i : Int) < (l.length : Int) := by omega
    have h0 : 0 ≤ (i : Int) := by omega
    have hlt : i < l.length := by omega
    have hci : l[i]? = some l[i] := by simp [hlt]
    have hd : l.drop i = l[i] :: l.drop (i + 1) := List.drop_eq_getElem_cons hlt
    generalize l[i] = q at hci hd
    have hw : IntKind.i64.wrap ((i : Int) + 1) = ((i + 1 : Nat) : Int) := by rw [wrap_i64 (by omega) (by omega)]; omega
    have hh := has_eq out (by unfold Small; omega) q.name
    have hol : out.length + 1 ≤ 2147483648 := by omega
    by_cases hm : q.name ∈ out
    · simp only [hm, decide_true] at hh
      refine Or.inl ?_
      rw [c_round]
      simp only [u4, Try.f4, Pod.d, Pod.cs, hi, h0, hci, hw, hh, sm, tys, Nat.reduceAdd, Nat.reduceSub, Nat.reduceEqDiff, Nat.reduceLeDiff, Nat.reduceLT, Nat.reduceMul, Nat.reduceBEq, ↓reduceIte, reduceCtorEq, Int.reduceLT, Int.reduceLE, Int.reduceGT, Int.reduceGE, Int.reduceBEq, Int.reduceBNe, Int.reduceEq, Int.reduceNe, Int.reduceAdd, Int.reduceSub, Int.reduceMul, Int.reduceNeg, Int.reduceToNat]
      exact ⟨_, rfl⟩
    · simp only [hm, decide_false] at hh
      have e : out ++ (l.drop i).map Pod.name = (out ++ [q.name]) ++ (l.drop (i + 1)).map Pod.name := by rw [hd]; simp
      have hn2 : (out ++ [q.name]).Nodup := by
        rw [List.nodup_append]
        refine ⟨hn, by simp, ?_⟩
        intro a ha b hb e
        rw [List.mem_singleton] at hb
        exact hm (by rw [← hb, ← e]; exact ha)
      have hq := ih (i + 1) (out ++ [q.name]) (by omega) (by simp; omega) hn2
      rw [e]
      rw [List.map_append (l₂ := [_]), List.map_cons, List.map_nil, List.length_append (bs := [_]), List.length_cons, List.length_nil, Nat.zero_add, strD] at hq
      rw [c_round]
      simp only [u4, Try.f4, Pod.d, Pod.cs, hi, h0, hci, hw, hh, hol, sm, tys, Nat.reduceAdd, Nat.reduceSub, Nat.reduceEqDiff, Nat.reduceLeDiff, Nat.reduceLT, Nat.reduceMul, Nat.reduceBEq, ↓reduceIte, reduceCtorEq, Int.reduceLT, Int.reduceLE, Int.reduceGT, Int.reduceGE, Int.reduceBEq, Int.reduceBNe, Int.reduceEq, Int.reduceNe, Int.reduceAdd, Int.reduceSub, Int.reduceMul, Int.reduceNeg, Int.reduceToNat]
      exact hq
set_option maxHeartbeats 8000000 in
theorem order_adds {bd : Code} (hb : bd = bodyAt Try.f4 21) (n : Node) (l o : List Pod) (hl : Small o) : ∀ (k j : Nat) (x : Info), j + k = o.length → x.good → x.names.length + k ≤ 1073741824 → x.ports.length + portsOf (o.drop j) ≤ 1073741824 → x.disks.length + claimsOf (o.drop j) ≤ 1073741824 →
    (∀ q ∈ o.drop j, ¬ q.name ∈ x.names) → ((o.drop j).map Pod.name).Nodup →
    evLoop E4 0 bd [(1, .d (.sl (l.map Pod.d))), (3, .ptr 0 0), (11, .ptr 1 0), (13, .own 5 ((o).map Pod.d)), (14, .d (.int .i64 ((j : Int))))] [.box [.d (.str n.name), .d (.sl (n.labels.map Label.d)), .d (.sl (n.taints.map Taint.d)), .d (.bool n.off), .d (.int .i64 (n.give.cpu)), .d (.int .i64 (n.give.mem)), .d (.int .i64 (n.give.disk)), .d (.int .i64 (n.pods)), .d (.int .i64 (n.disks))], .box [.d (.str n.name), .d (.sl (n.labels.map Label.d)), .d (.sl (n.taints.map Taint.d)), .d (.bool n.off), .d (.int .i64 (n.give.cpu)), .d (.int .i64 (n.give.mem)), .d (.int .i64 (n.give.disk)), .d (.int .i64 (n.pods)), .d (.int .i64 (n.disks)), .sl 2 0 ((x)).names.length, .d (.int .i64 (((x)).used.cpu)), .d (.int .i64 (((x)).used.mem)), .d (.int .i64 (((x)).used.disk)), .sl 3 0 ((x)).ports.length, .sl 4 0 ((x)).disks.length], .row 9 1 ((((x)).names).map strD), .row 3 1 ((((x)).ports).map intD), .row 9 1 ((((x)).disks).map strD), .tok 37 (o).length 16] = some ([(1, .d (.sl (l.map Pod.d))), (3, .ptr 0 0), (11, .ptr 1 0), (13, .own 5 ((o).map Pod.d)), (14, .d (.int .i64 (o.length))), (86, .d (.bool false))], [.box [.d (.str n.name), .d (.sl (n.labels.map Label.d)), .d (.sl (n.taints.map Taint.d)), .d (.bool n.off), .d (.int .i64 (n.give.cpu)), .d (.int .i64 (n.give.mem)), .d (.int .i64 (n.give.disk)), .d (.int .i64 (n.pods)), .d (.int .i64 (n.disks))], .box [.d (.str n.name), .d (.sl (n.labels.map Label.d)), .d (.sl (n.taints.map Taint.d)), .d (.bool n.off), .d (.int .i64 (n.give.cpu)), .d (.int .i64 (n.give.mem)), .d (.int .i64 (n.give.disk)), .d (.int .i64 (n.pods)), .d (.int .i64 (n.disks)), .sl 2 0 ((((o.drop j).foldl Info.step x))).names.length, .d (.int .i64 (((((o.drop j).foldl Info.step x))).used.cpu)), .d (.int .i64 (((((o.drop j).foldl Info.step x))).used.mem)), .d (.int .i64 (((((o.drop j).foldl Info.step x))).used.disk)), .sl 3 0 ((((o.drop j).foldl Info.step x))).ports.length, .sl 4 0 ((((o.drop j).foldl Info.step x))).disks.length], .row 9 1 ((((((o.drop j).foldl Info.step x))).names).map strD), .row 3 1 ((((((o.drop j).foldl Info.step x))).ports).map intD), .row 9 1 ((((((o.drop j).foldl Info.step x))).disks).map strD), .tok 37 (o).length 16], .exit 4) := by
  simp only [bodyAt, bodyOf, loop_seq, loop_cond, loop_block, loop_loop, loop_region, loop_skip, loop_ret, loop_exit, orE_some, orE_none, Code.first, Option.getD_some, Nat.reduceEqDiff, ↓reduceIte, Try.f4] at hb
  subst hb
  unfold Small at hl
  intro k
  induction k with
  | zero =>
    intro j x hk hg h1 h2 h3 h4 h5
    have hi : (j : Int) = (o.length : Int) := by omega
    have hd : o.drop j = [] := by rw [List.drop_eq_nil_iff]; omega
    rw [c_round, hd]
    simp only [u4, Try.f4, hi, List.foldl_nil, Int.lt_irrefl, sm, tys, Nat.reduceAdd, Nat.reduceSub, Nat.reduceEqDiff, Nat.reduceLeDiff, Nat.reduceLT, Nat.reduceMul, Nat.reduceBEq, ↓reduceIte, reduceCtorEq, Int.reduceLT, Int.reduceLE, Int.reduceGT, Int.reduceGE, Int.reduceBEq, Int.reduceBNe, Int.reduceEq, Int.reduceNe, Int.reduceAdd, Int.reduceSub, Int.reduceMul, Int.reduceNeg, Int.reduceToNat]
  | succ k ih =>
    intro j x hk hg h1 h2 h3 h4 h5
    have hi : (j : Int) < (o.length : Int) := by omega
    have h0 : 0 ≤ (j : Int) := by omega
    have hlt : j < o.length := by omega
    have hci : o[j]? = some o[j] := by simp [hlt]
    have hd : o.drop j = o[j] :: o.drop (j + 1) := List.drop_eq_getElem_cons hlt
    generalize o[j] = q at hci hd
    have hw : IntKind.i64.wrap ((j : Int) + 1) = ((j + 1 : Nat) : Int) := by rw [wrap_i64 (by omega) (by omega)]; omega
    rw [hd] at h2 h3 h4 h5
    have hm : ¬ q.name ∈ x.names := h4 q (by simp)
    simp only [portsOf, claimsOf, List.map_cons, List.sum_cons] at h2 h3
    obtain ⟨hnq, hnr⟩ := List.nodup_cons.1 h5
    obtain ⟨q1, q2, q3⟩ := step_len x q
    have hsg := step_good x q hg
    have hsn := step_names x q
    have e : x.step q = x.plus q := by unfold Info.step; rw [if_neg hm]
    have hq := ih (j + 1) (x.step q) (by omega) hsg (by omega) (by unfold portsOf; omega) (by unfold claimsOf; omega) (by
      intro c hc hcn
      rcases (hsn c.name).1 hcn with hcn | hcn
      · exact h4 c (List.mem_cons_of_mem _ hc) hcn
      · exact hnq (by rw [← hcn]; exact List.mem_map.2 ⟨c, hc, rfl⟩)) hnr
    have hadd := add_new n x q hg hm (by unfold Small; omega) (by omega) (by omega)
    rw [hd, List.foldl_cons, ← hq, c_round, e]
    have ht1 := List.take_length (l := x.names.map strD)
    rw [List.length_map] at ht1
    generalize x.plus q = y at *
    simp only [Pod.d, Pod.cs] at hadd
    simp only [u4, Try.f4, Pod.d, Pod.cs, hi, h0, hci, hw, hadd, sm, tys, Nat.reduceAdd, Nat.reduceSub, Nat.reduceEqDiff, Nat.reduceLeDiff, Nat.reduceLT, Nat.reduceMul, Nat.reduceBEq, ↓reduceIte, reduceCtorEq, Int.reduceLT, Int.reduceLE, Int.reduceGT, Int.reduceGE, Int.reduceBEq, Int.reduceBNe, Int.reduceEq, Int.reduceNe, Int.reduceAdd, Int.reduceSub, Int.reduceMul, Int.reduceNeg, Int.reduceToNat]
set_option maxHeartbeats 8000000 in
theorem order_eq (n : Node) (l : List Pod) (t : Int) (hn : n.ok) (hl : Pods.ok l) (ha : Pods.all l) (hs : l.length + 1 ≤ 1073741824) : v4 [.d n.d, .d (.sl (l.map Pod.d)), .d (.int .i64 (t))] [] = some (.d (.bool true), []) := by
  have hw := works_eq
  have h1 := order_sum (bd := bodyAt Try.f4 5) rfl n t l hl.1 l.length 0 ⟨0, 0, 0⟩ (by omega)
  rw [List.drop_zero] at h1
  generalize l.foldl (fun (r : Res) (p : Pod) => r.add p.want) (⟨0, 0, 0⟩ : Res) = s at h1
  simp only [bodyAt, bodyOf, loop_seq, loop_cond, loop_block, loop_loop, loop_region, loop_skip, loop_ret, loop_exit, orE_some, orE_none, Code.first, Option.getD_some, Nat.reduceEqDiff, ↓reduceIte, Try.f4] at h1
  simp only [Int.cast_ofNat_Int] at h1
  have h2 := order_names (bd := bodyAt Try.f4 12) rfl n t l hl.1 l.length 0 [] (by omega) rfl (by simp)
  rw [List.drop_zero] at h2
  simp only [bodyAt, bodyOf, loop_seq, loop_cond, loop_block, loop_loop, loop_region, loop_skip, loop_ret, loop_exit, orE_some, orE_none, Code.first, Option.getD_some, Nat.reduceEqDiff, ↓reduceIte, Try.f4] at h2
  simp only [Int.cast_ofNat_Int, List.map_nil, List.length_nil, List.nil_append] at h2
  have hnil := info_of n [] (by unfold Pods.ok Small; simp [portsOf, claimsOf])
  have e0 : Info.of n [] = Info.none n := rfl
  rw [e0] at hnil
  simp only [Info.none, List.map_nil, List.length_nil, Node.d, Node.cs] at hnil
  obtain ⟨k, hk, hamong⟩ := among_eq t (l.length + 1) (by omega) (by omega)
  have hll : l.length ≤ 1073741823 := by omega
  by_cases c1 : (1125899906842624 : Int) ≤ s.cpu
  · simp only [u4, Try.f4, Node.d, Node.cs, hw, h1, c1, sm, tys, Nat.reduceAdd, Nat.reduceSub, Nat.reduceEqDiff, Nat.reduceLeDiff, Nat.reduceLT, Nat.reduceMul, Nat.reduceBEq, ↓reduceIte, reduceCtorEq, Int.reduceLT, Int.reduceLE, Int.reduceGT, Int.reduceGE, Int.reduceBEq, Int.reduceBNe, Int.reduceEq, Int.reduceNe, Int.reduceAdd, Int.reduceSub, Int.reduceMul, Int.reduceNeg, Int.reduceToNat]
  by_cases c2 : (1125899906842624 : Int) ≤ s.mem
  · simp only [u4, Try.f4, Node.d, Node.cs, hw, h1, c1, c2, sm, tys, Nat.reduceAdd, Nat.reduceSub, Nat.reduceEqDiff, Nat.reduceLeDiff, Nat.reduceLT, Nat.reduceMul, Nat.reduceBEq, ↓reduceIte, reduceCtorEq, Int.reduceLT, Int.reduceLE, Int.reduceGT, Int.reduceGE, Int.reduceBEq, Int.reduceBNe, Int.reduceEq, Int.reduceNe, Int.reduceAdd, Int.reduceSub, Int.reduceMul, Int.reduceNeg, Int.reduceToNat]
  by_cases c3 : (1125899906842624 : Int) ≤ s.disk
  · simp only [u4, Try.f4, Node.d, Node.cs, hw, h1, c1, c2, c3, sm, tys, Nat.reduceAdd, Nat.reduceSub, Nat.reduceEqDiff, Nat.reduceLeDiff, Nat.reduceLT, Nat.reduceMul, Nat.reduceBEq, ↓reduceIte, reduceCtorEq, Int.reduceLT, Int.reduceLE, Int.reduceGT, Int.reduceGE, Int.reduceBEq, Int.reduceBNe, Int.reduceEq, Int.reduceNe, Int.reduceAdd, Int.reduceSub, Int.reduceMul, Int.reduceNeg, Int.reduceToNat]
  rcases h2 with ⟨S, h2⟩ | ⟨hnd, h2⟩
  · simp only [u4, Try.f4, Node.d, Node.cs, hw, h1, h2, c1, c2, c3, sm, tys, Nat.reduceAdd, Nat.reduceSub, Nat.reduceEqDiff, Nat.reduceLeDiff, Nat.reduceLT, Nat.reduceMul, Nat.reduceBEq, ↓reduceIte, reduceCtorEq, Int.reduceLT, Int.reduceLE, Int.reduceGT, Int.reduceGE, Int.reduceBEq, Int.reduceBNe, Int.reduceEq, Int.reduceNe, Int.reduceAdd, Int.reduceSub, Int.reduceMul, Int.reduceNeg, Int.reduceToNat]
  have hww : IntKind.i64.wrap ((l.length : Int) + 1) = ((l.length + 1 : Nat) : Int) := by rw [wrap_i64 (by omega) (by omega)]; omega
  have hk0 : (0 : Int) ≤ (k : Int) := by omega
  have hk1 : (k : Int) ≤ (l.length : Int) := by omega
  have hpd := pods_eq (l.drop k) (by unfold Small; simp; omega) (fun p hp => ha p (List.mem_of_mem_drop hp))
  have al := all_Podd l
  have al2 := all_Podd (l.take k)
  have hllI : (l.length : Int) ≤ (l.length : Int) := by omega
  have ht := List.take_length (l := l.map Pod.d)
  rw [List.length_map] at ht
  have e1 : List.drop k (l.map Pod.d) = (l.drop k).map Pod.d := by rw [List.map_drop]
  have e2 : List.take k (l.map Pod.d) = (l.take k).map Pod.d := by rw [List.map_take]
  have e3 : (l.drop k).map Pod.d ++ (l.take k).map Pod.d = (l.drop k ++ l.take k).map Pod.d := by rw [List.map_append]
  have e4 : (l.drop k).length + (l.take k).length = (l.drop k ++ l.take k).length := by rw [List.length_append]
  have e5 : (l.drop k ++ l.take k).length ≤ 2147483648 := by simp; omega
  have hperm : (l.drop k ++ l.take k).Perm l := by
    have := List.perm_append_comm (l₁ := l.drop k) (l₂ := l.take k)
    rwa [List.take_append_drop] at this
  have hle : (l.drop k ++ l.take k).length = l.length := hperm.length_eq
  have hpo : portsOf (l.drop k ++ l.take k) = portsOf l := by unfold portsOf; exact (hperm.map _).sum_nat
  have hcl : claimsOf (l.drop k ++ l.take k) = claimsOf l := by unfold claimsOf; exact (hperm.map _).sum_nat
  have hno : ((l.drop k ++ l.take k).map Pod.name).Nodup := (hperm.map Pod.name).nodup_iff.2 hnd
  have hof : Info.of n (l.drop k ++ l.take k) = Info.of n l := of_perm n _ _ hperm hno
  generalize l.drop k ++ l.take k = o at *
  obtain ⟨p1, p2, p3⟩ := hl
  unfold Small at p1
  have hadds := order_adds (bd := bodyAt Try.f4 21) rfl n l o (by unfold Small; omega) o.length 0 (Info.none n) (by omega) ⟨.nil, .nil, .nil⟩ (by simp [Info.none]; omega) (by simp only [Info.none, List.length_nil, List.drop_zero]; omega) (by simp only [Info.none, List.length_nil, List.drop_zero]; omega) (by intro q _; simp [Info.none]) (by rw [List.drop_zero]; exact hno)
  rw [List.drop_zero] at hadds
  have e7 : o.foldl Info.step (Info.none n) = Info.of n l := hof
  rw [e7] at hadds
  simp only [bodyAt, bodyOf, loop_seq, loop_cond, loop_block, loop_loop, loop_region, loop_skip, loop_ret, loop_exit, orE_some, orE_none, Code.first, Option.getD_some, Nat.reduceEqDiff, ↓reduceIte, Try.f4] at hadds
  simp only [Info.none, Int.cast_ofNat_Int, List.map_nil, List.length_nil] at hadds
  have hfin := info_of n l ⟨p1, p2, p3⟩
  have hx := info_ok n hn l ⟨p1, p2, p3⟩
  have hxn := info_node n l
  generalize Info.of n l = x at *
  have hsame := sameInfo x hx
  have u1 := List.take_length (l := x.names.map strD)
  have u2 := List.take_length (l := x.ports.map intD)
  have u3 := List.take_length (l := x.disks.map strD)
  rw [List.length_map] at u1 u2 u3
  simp only [Info.d, Info.cs, hxn, Node.cs, List.cons_append, List.nil_append] at hsame
  simp only [Node.d, Node.cs] at hfin
  simp only [u4, Try.f4, Node.d, Node.cs, hw, h1, h2, c1, c2, c3, hnil, hww, hamong, hk0, hk1, hpd, al, al2, hllI, ht, e1, e2, e3, e4, e5, hadds, hfin, hsame, u1, u2, u3, sm, tys, Nat.reduceAdd, Nat.reduceSub, Nat.reduceEqDiff, Nat.reduceLeDiff, Nat.reduceLT, Nat.reduceMul, Nat.reduceBEq, ↓reduceIte, reduceCtorEq, Int.reduceLT, Int.reduceLE, Int.reduceGT, Int.reduceGE, Int.reduceBEq, Int.reduceBNe, Int.reduceEq, Int.reduceNe, Int.reduceAdd, Int.reduceSub, Int.reduceMul, Int.reduceNeg, Int.reduceToNat]
end Go.Wm.Try1
