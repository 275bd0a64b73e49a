/-
  A part of the proof: an abstract run of the program, shown to be what the model does, and what it comes to.
-/
import Derived.Test.YtmfjfejjegemaaaGreatDoorMB
set_option linter.unusedSectionVars false
set_option linter.unnecessarySimpa false
set_option maxRecDepth 100000
set_option linter.unusedVariables false
set_option linter.unusedSimpArgs false
set_option linter.defProp false
namespace Go.Wm.Try1
open Go Go.Wm Go.Proofs
theorem w8 : IntKind.u8.wrap 1 = 1 := by decide
theorem t8 : (((1 : UInt8).toNat : Nat) : Int) = 1 := by decide
theorem w64 : IntKind.i64.wrap 1 = 1 := by decide
theorem n1 : ¬ ((100 : UInt8) = 98) := by decide
theorem bl1 : Op.bytesLess [100] [98] = false := by decide
theorem bl2 : Op.bytesLess [98] [100] = true := by decide
set_option maxHeartbeats 40000000 in
theorem works_eq : v7 [] [] = some (.d (.bool true), []) := by
  simp (maxSteps := 3000000) only [u7, Tryz.f7, u10, Tryz.f10, u24, Tryz.f24, u49, Tryz.f49, u72, Tryz.f72, u73, Tryz.f73, u99, Tryz.f99, u67, Tryz.f67, u74, Tryz.f74, u75, Tryz.f75, u100, Tryz.f100, u101, Tryz.f101, u102, Tryz.f102, u70, Tryz.f70, u63, Tryz.f63, u65, Tryz.f65, u96, Tryz.f96, u98, Tryz.f98, u111, Tryz.f111, u41, Tryz.f41, u68, Tryz.f68, u66, Tryz.f66, u97, Tryz.f97, u42, Tryz.f42, u69, Tryz.f69, u40, Tryz.f40, u13, Tryz.f13, u71, Tryz.f71, u25, Tryz.f25, u26, Tryz.f26, u27, Tryz.f27, u28, Tryz.f28, u51, Tryz.f51, u86, Tryz.f86, u50, Tryz.f50, u76, Tryz.f76, u112, Tryz.f112, u108, Tryz.f108, u18, Tryz.f18, n1, w8, t8, w64, bl1, bl2, c_round, sm, tys, Nat.reduceAdd, Nat.reduceSub, Nat.reduceEqDiff, Nat.reduceLeDiff, Nat.reduceLT, Nat.reduceMul, Nat.reduceBEq, ↓reduceIte, reduceCtorEq, Int.reduceLT, Int.reduceLE, Int.reduceGT, Int.reduceGE, Int.reduceBEq, Int.reduceBNe, Int.reduceEq, Int.reduceNe, Int.reduceAdd, Int.reduceSub, Int.reduceMul, Int.reduceNeg, Int.reduceToNat]
end Go.Wm.Try1
namespace Go.Wm.Try1
open Go Go.Wm Go.Proofs
theorem fnd_map {α : Type} (nm : α → Str) (l : List α) (s : Str) : fnd nm l s = (l.map nm).findIdx? fun y => decide (y = s) := by
  unfold fnd
  rw [List.findIdx?_map]
  rfl
theorem map_set_same {α : Type} (nm : α → Str) (l : List α) (i : Nat) (x y : α) (h : l[i]? = some x) (e : nm y = nm x) : (l.set i y).map nm = l.map nm := by
  rw [List.map_set, e]
  have : (l.map nm)[i]? = some (nm x) := by rw [List.getElem?_map, h]; rfl
  obtain ⟨hi, he⟩ := List.getElem?_eq_some_iff.1 this
  rw [← he, List.set_getElem_self]
theorem fnd_set {α : Type} (nm : α → Str) (l : List α) (i : Nat) (x y : α) (s : Str) (h : l[i]? = some x) (e : nm y = nm x) : fnd nm (l.set i y) s = fnd nm l s := by
  rw [fnd_map, fnd_map, map_set_same nm l i x y h e]
theorem eachL_append (d : Claim → Vol → Option (Claim × Vol)) : ∀ (a b : List Pick) (cs : List Claim) (vs : List Vol) (cs1 : List Claim) (vs1 : List Vol), eachL d a cs vs = .inl (cs1, vs1) → eachL d (a ++ b) cs vs = eachL d b cs1 vs1
  | [], b, cs, vs, cs1, vs1, h => by
    simp only [eachL] at h
    cases h
    rfl
  | p :: a, b, cs, vs, cs1, vs1, h => by
    simp only [eachL, List.cons_append] at h ⊢
    split at h
    · split at h
      · split at h
        · exact eachL_append d a b _ _ _ _ h
        · cases h
      · cases h
    · cases h
theorem back : ∀ (ps : List Pick) (cs : List Claim) (vs : List Vol) (cs1 : List Claim) (vs1 : List Vol), eachL doApply ps cs vs = .inl (cs1, vs1) → eachL doUndo ps.reverse cs1 vs1 = .inl (cs, vs)
  | [], cs, vs, cs1, vs1, h => by
    simp only [eachL] at h
    cases h
    rfl
  | p :: ps, cs, vs, cs1, vs1, h => by
    simp only [eachL] at h
    split at h
    · rename_i c v hc hv
      obtain ⟨x, hx, hxn⟩ := fnd_lt hc
      obtain ⟨y, hy, hyn⟩ := fnd_lt hv
      rw [hx, hy] at h
      simp only at h
      split at h
      · rename_i x' y' hd
        have ih := back ps _ _ _ _ h
        rw [List.reverse_cons, eachL_append doUndo _ _ _ _ _ _ ih]
        unfold doApply at hd
        split at hd
        · cases hd
        · rename_i hn
          simp only [not_or, Decidable.not_not] at hn
          simp only [Option.some.injEq, Prod.mk.injEq] at hd
          obtain ⟨rfl, rfl⟩ := hd
          simp only [eachL]
          have g1 := fnd_set Claim.name cs c x { x with vol := y.name } p.claim hx rfl
          have g2 := fnd_set Vol.name vs v y { y with claim := x.name } p.vol hy rfl
          rw [g1, g2, hc, hv]
          have hcl : c < cs.length := (List.getElem?_eq_some_iff.1 hx).1
          have hvl : v < vs.length := (List.getElem?_eq_some_iff.1 hy).1
          simp only [List.getElem?_set, hcl, hvl, if_true]
          unfold doUndo
          rw [if_neg (by simp)]
          simp only [List.set_set]
          have e1 : ({ { x with vol := y.name } with vol := [] } : Claim) = x := by cases x; simp only at hn; simp [hn.1]
          have e2 : ({ { y with claim := x.name } with claim := [] } : Vol) = y := by cases y; simp only at hn; simp [hn.2.1]
          simp only at e1 e2
          rw [e1, e2]
          have f1 : cs.set c x = cs := by obtain ⟨h1, h2⟩ := List.getElem?_eq_some_iff.1 hx; rw [← h2, List.set_getElem_self]
          have f2 : vs.set v y = vs := by obtain ⟨h1, h2⟩ := List.getElem?_eq_some_iff.1 hy; rw [← h2, List.set_getElem_self]
          rw [f1, f2]
      · cases h
    · cases h
def State.zero : State := ⟨[], [], [], [], [], []⟩
theorem put_small (s : State) (h : s.small) (cs : List Claim) (vs : List Vol) (h1 : cs.length = s.claims.length) (h2 : vs.length = s.vols.length) : (s.put cs vs).small := by
  unfold State.small State.put Small at *
  obtain ⟨a, b, c, d, e, f⟩ := h
  refine And.intro a (And.intro b (And.intro ?_ (And.intro ?_ (And.intro e f)))) <;> dsimp only <;> omega
theorem eachL_err (do1 : Claim → Vol → Option (Claim × Vol)) : ∀ (ps : List Pick) (cs : List Claim) (vs : List Vol) (e : Int), eachL do1 ps cs vs = .inr e → e = 2 ∨ e = 5
  | [], cs, vs, e, h => by simp only [eachL] at h; cases h
  | p :: ps, cs, vs, e, h => by
    simp only [eachL] at h
    split at h
    · split at h
      · split at h
        · exact eachL_err do1 ps _ _ _ h
        · cases h; exact .inl rfl
      · cases h; exact .inr rfl
    · cases h; exact .inr rfl
set_option maxHeartbeats 8000000 in
theorem volBack_eq (s : State) (hk : s.ok) (hs : s.small) (l : List Pick) (hl : Small l) : v5 [.d s.d, .d (.sl (l.map Pick.d))] [] = some (.d (.bool true), []) := by
  have hw := works_eq
  have ho := once_eq s hs.2.2.2.1 hs.2.2.1
  have ha := apply_eq s hs l hl
  have hsame := sameState s hk
  have hzero := sameState State.zero (by unfold State.ok Small State.zero; simp)
  simp only [State.d, State.cs, State.zero, List.map_nil] at hzero
  cases e1 : s.once with
  | false =>
    rw [e1] at ho
    simp only [State.d, State.cs] at ho
    simp only [u5, Tryz.f5, State.d, State.cs, hw, ho, sm, tys, Nat.reduceAdd, Nat.reduceSub, Nat.reduceEqDiff, Nat.reduceLeDiff, Nat.reduceLT, Nat.reduceMul, Nat.reduceBEq, ↓reduceIte, reduceCtorEq, Int.reduceLT, Int.reduceLE, Int.reduceGT, Int.reduceGE, Int.reduceBEq, Int.reduceBNe, Int.reduceEq, Int.reduceNe, Int.reduceAdd, Int.reduceSub, Int.reduceMul, Int.reduceNeg, Int.reduceToNat]
  | true =>
    rw [e1] at ho
    cases e2 : eachL doApply l s.claims s.vols with
    | inr e =>
      rw [e2] at ha
      simp only at ha
      have he : ¬ e = 0 := by rcases eachL_err _ _ _ _ _ e2 with h | h <;> omega
      simp only [State.d, State.cs] at ho ha
      simp only [u5, Tryz.f5, State.d, State.cs, hw, ho, ha, he, hzero, sm, tys, Nat.reduceAdd, Nat.reduceSub, Nat.reduceEqDiff, Nat.reduceLeDiff, Nat.reduceLT, Nat.reduceMul, Nat.reduceBEq, ↓reduceIte, reduceCtorEq, Int.reduceLT, Int.reduceLE, Int.reduceGT, Int.reduceGE, Int.reduceBEq, Int.reduceBNe, Int.reduceEq, Int.reduceNe, Int.reduceAdd, Int.reduceSub, Int.reduceMul, Int.reduceNeg, Int.reduceToNat]
    | inl q =>
      obtain ⟨cs, vs⟩ := q
      rw [e2] at ha
      simp only at ha
      obtain ⟨q1, q2⟩ := eachL_len _ _ _ _ _ _ e2
      have hu := undo_eq (s.put cs vs) (put_small s hs cs vs q1 q2) l hl
      have hb := back l s.claims s.vols cs vs e2
      have hc : (s.put cs vs).claims = cs := rfl
      have hv : (s.put cs vs).vols = vs := rfl
      rw [hc, hv, hb] at hu
      simp only at hu
      have hp : (s.put cs vs).put s.claims s.vols = s := rfl
      rw [hp] at hu
      have t1 := List.take_length (l := s.pods.map Pod.d)
      have t2 := List.take_length (l := s.nodes.map Node.d)
      have t3 := List.take_length (l := s.vols.map Vol.d)
      have t4 := List.take_length (l := s.claims.map Claim.d)
      have t5 := List.take_length (l := s.classes.map Class.d)
      have t6 := List.take_length (l := s.budgets.map Budget.d)
      have t7 := List.take_length (l := vs.map Vol.d)
      have t8 := List.take_length (l := cs.map Claim.d)
      rw [List.length_map] at t1 t2 t3 t4 t5 t6 t7 t8
      simp only [State.d, State.cs, State.put] at ho ha hu hsame
      simp only [u5, Tryz.f5, State.d, State.cs, hw, ho, ha, hu, hsame, t1, t2, t3, t4, t5, t6, t7, t8, sm, tys, Nat.reduceAdd, Nat.reduceSub, Nat.reduceEqDiff, Nat.reduceLeDiff, Nat.reduceLT, Nat.reduceMul, Nat.reduceBEq, ↓reduceIte, reduceCtorEq, Int.reduceLT, Int.reduceLE, Int.reduceGT, Int.reduceGE, Int.reduceBEq, Int.reduceBNe, Int.reduceEq, Int.reduceNe, Int.reduceAdd, Int.reduceSub, Int.reduceMul, Int.reduceNeg, Int.reduceToNat]
end Go.Wm.Try1
namespace Go.Wm.Try1
open Go Go.Wm Go.Proofs
theorem list_of {α : Type} (k T : Nat) (enc : α → D) (h : ∀ cs, shape ty k T cs → ∃ a, elemT ty T cs = enc a) : ∀ xs : List D, (∀ x ∈ xs, ∃ cs, shape ty k T cs ∧ x = elemT ty T cs) → ∃ l : List α, xs = l.map enc
  | [], _ => ⟨[], rfl⟩
  | x :: r, g => by
    obtain ⟨l, rfl⟩ := list_of k T enc h r fun y hy => g y (List.mem_cons_of_mem _ hy)
    obtain ⟨cs, hc, hx⟩ := g x (by simp)
    obtain ⟨a, ha⟩ := h cs hc
    exact ⟨a :: l, by rw [hx, ha]; rfl⟩
theorem str_of (k : Nat) (cs : List D) (h : shape ty (k + 1) 9 cs) : ∃ a : Str, elemT ty 9 cs = strD a := by
  obtain ⟨a, rfl, _⟩ := shape_str ty_9 rfl h
  exact ⟨a, elemT_one ty_9 rfl⟩
theorem int_of (k : Nat) (cs : List D) (h : shape ty (k + 1) 3 cs) : ∃ a : Int, elemT ty 3 cs = intD a := by
  obtain ⟨a, rfl, _⟩ := shape_int ty_3 rfl h
  exact ⟨a, elemT_one ty_3 rfl⟩
theorem label_cs (k : Nat) (cs : List D) (h : shape ty (k + 2) 161 cs) : ∃ a : Label, cs = [.str a.key, .str a.val] := by
  have hf := shape_st ty_161 rfl h
  obtain ⟨c1, r1, rfl, _, s1, c2, r2, rfl, _, s2, rfl⟩ := hf
  obtain ⟨a1, rfl, _⟩ := shape_str ty_9 rfl s1
  obtain ⟨a2, rfl, _⟩ := shape_str ty_9 rfl s2
  exact ⟨⟨a1, a2⟩, rfl⟩
theorem label_of (k : Nat) (cs : List D) (h : shape ty (k + 2) 161 cs) : ∃ a : Label, elemT ty 161 cs = a.d := by
  obtain ⟨a, rfl⟩ := label_cs k cs h
  exact ⟨a, elemT_agg ty_161 rfl⟩
theorem taint_cs (k : Nat) (cs : List D) (h : shape ty (k + 2) 127 cs) : ∃ a : Taint, cs = [.str a.key, .str a.val, .int .i64 a.effect] := by
  have hf := shape_st ty_127 rfl h
  obtain ⟨c1, r1, rfl, _, s1, c2, r2, rfl, _, s2, c3, r3, rfl, _, s3, rfl⟩ := hf
  obtain ⟨a1, rfl, _⟩ := shape_str ty_9 rfl s1
  obtain ⟨a2, rfl, _⟩ := shape_str ty_9 rfl s2
  obtain ⟨a3, rfl, _⟩ := shape_int ty_3 rfl s3
  exact ⟨⟨a1, a2, a3⟩, rfl⟩
theorem taint_of (k : Nat) (cs : List D) (h : shape ty (k + 2) 127 cs) : ∃ a : Taint, elemT ty 127 cs = a.d := by
  obtain ⟨a, rfl⟩ := taint_cs k cs h
  exact ⟨a, elemT_agg ty_127 rfl⟩
theorem bear_cs (k : Nat) (cs : List D) (h : shape ty (k + 2) 125 cs) : ∃ a : Bear, cs = [.str a.key, .str a.val, .bool a.any, .int .i64 a.effect] := by
  have hf := shape_st ty_125 rfl h
  obtain ⟨c1, r1, rfl, _, s1, c2, r2, rfl, _, s2, c3, r3, rfl, _, s3, c4, r4, rfl, _, s4, rfl⟩ := hf
  obtain ⟨a1, rfl, _⟩ := shape_str ty_9 rfl s1
  obtain ⟨a2, rfl, _⟩ := shape_str ty_9 rfl s2
  obtain ⟨a3, rfl⟩ := shape_bool ty_4 rfl s3
  obtain ⟨a4, rfl, _⟩ := shape_int ty_3 rfl s4
  exact ⟨⟨a1, a2, a3, a4⟩, rfl⟩
theorem bear_of (k : Nat) (cs : List D) (h : shape ty (k + 2) 125 cs) : ∃ a : Bear, elemT ty 125 cs = a.d := by
  obtain ⟨a, rfl⟩ := bear_cs k cs h
  exact ⟨a, elemT_agg ty_125 rfl⟩
theorem req_cs (k : Nat) (cs : List D) (h : shape ty (k + 3) 91 cs) : ∃ a : Req, cs = [.str a.key, .int .i64 a.op, .sl (a.vals.map strD)] := by
  have hf := shape_st ty_91 rfl h
  obtain ⟨c1, r1, rfl, _, s1, c2, r2, rfl, _, s2, c3, r3, rfl, _, s3, rfl⟩ := hf
  obtain ⟨a1, rfl, _⟩ := shape_str ty_9 rfl s1
  obtain ⟨a2, rfl, _⟩ := shape_int ty_3 rfl s2
  obtain ⟨y3, rfl, _, h3⟩ := shape_sl ty_31 rfl s3
  obtain ⟨a3, rfl⟩ := list_of _ _ _ (str_of _) y3 h3
  exact ⟨⟨a1, a2, a3⟩, rfl⟩
theorem req_of (k : Nat) (cs : List D) (h : shape ty (k + 3) 91 cs) : ∃ a : Req, elemT ty 91 cs = a.d := by
  obtain ⟨a, rfl⟩ := req_cs k cs h
  exact ⟨a, elemT_agg ty_91 rfl⟩
theorem prefer_cs (k : Nat) (cs : List D) (h : shape ty (k + 5) 106 cs) : ∃ a : Prefer, cs = [.sl (a.reqs.map Req.d), .int .i64 a.weight] := by
  have hf := shape_st ty_106 rfl h
  obtain ⟨c1, r1, rfl, _, s1, c2, r2, rfl, _, s2, rfl⟩ := hf
  obtain ⟨y1, rfl, _, h1⟩ := shape_sl ty_26 rfl s1
  obtain ⟨a1, rfl⟩ := list_of _ _ _ (req_of _) y1 h1
  obtain ⟨a2, rfl, _⟩ := shape_int ty_3 rfl s2
  exact ⟨⟨a1, a2⟩, rfl⟩
theorem prefer_of (k : Nat) (cs : List D) (h : shape ty (k + 5) 106 cs) : ∃ a : Prefer, elemT ty 106 cs = a.d := by
  obtain ⟨a, rfl⟩ := prefer_cs k cs h
  exact ⟨a, elemT_agg ty_106 rfl⟩
theorem term_cs (k : Nat) (cs : List D) (h : shape ty (k + 5) 133 cs) : ∃ a : Term, cs = [.sl (a.reqs.map Req.d), .str a.key] := by
  have hf := shape_st ty_133 rfl h
  obtain ⟨c1, r1, rfl, _, s1, c2, r2, rfl, _, s2, rfl⟩ := hf
  obtain ⟨y1, rfl, _, h1⟩ := shape_sl ty_26 rfl s1
  obtain ⟨a1, rfl⟩ := list_of _ _ _ (req_of _) y1 h1
  obtain ⟨a2, rfl, _⟩ := shape_str ty_9 rfl s2
  exact ⟨⟨a1, a2⟩, rfl⟩
theorem term_of (k : Nat) (cs : List D) (h : shape ty (k + 5) 133 cs) : ∃ a : Term, elemT ty 133 cs = a.d := by
  obtain ⟨a, rfl⟩ := term_cs k cs h
  exact ⟨a, elemT_agg ty_133 rfl⟩
theorem spread_cs (k : Nat) (cs : List D) (h : shape ty (k + 5) 110 cs) : ∃ a : Spread, cs = [.str a.key, .int .i64 a.skew, .int .i64 a.least, .sl (a.reqs.map Req.d)] := by
  have hf := shape_st ty_110 rfl h
  obtain ⟨c1, r1, rfl, _, s1, c2, r2, rfl, _, s2, c3, r3, rfl, _, s3, c4, r4, rfl, _, s4, rfl⟩ := hf
  obtain ⟨a1, rfl, _⟩ := shape_str ty_9 rfl s1
  obtain ⟨a2, rfl, _⟩ := shape_int ty_3 rfl s2
  obtain ⟨a3, rfl, _⟩ := shape_int ty_3 rfl s3
  obtain ⟨y4, rfl, _, h4⟩ := shape_sl ty_26 rfl s4
  obtain ⟨a4, rfl⟩ := list_of _ _ _ (req_of _) y4 h4
  exact ⟨⟨a1, a2, a3, a4⟩, rfl⟩
theorem spread_of (k : Nat) (cs : List D) (h : shape ty (k + 5) 110 cs) : ∃ a : Spread, elemT ty 110 cs = a.d := by
  obtain ⟨a, rfl⟩ := spread_cs k cs h
  exact ⟨a, elemT_agg ty_110 rfl⟩
theorem res_cs (k : Nat) (cs : List D) (h : shape ty (k + 2) 24 cs) : ∃ a : Res, cs = [.int .i64 a.cpu, .int .i64 a.mem, .int .i64 a.disk] := by
  have hf := shape_st ty_24 rfl h
  obtain ⟨c1, r1, rfl, _, s1, c2, r2, rfl, _, s2, c3, r3, rfl, _, s3, rfl⟩ := hf
  obtain ⟨a1, rfl, _⟩ := shape_int ty_3 rfl s1
  obtain ⟨a2, rfl, _⟩ := shape_int ty_3 rfl s2
  obtain ⟨a3, rfl, _⟩ := shape_int ty_3 rfl s3
  exact ⟨⟨a1, a2, a3⟩, rfl⟩
theorem res_of (k : Nat) (cs : List D) (h : shape ty (k + 2) 24 cs) : ∃ a : Res, elemT ty 24 cs = a.d := by
  obtain ⟨a, rfl⟩ := res_cs k cs h
  exact ⟨a, elemT_agg ty_24 rfl⟩
theorem pod_cs (k : Nat) (cs : List D) (h : shape ty (k + 7) 33 cs) : ∃ a : Pod, cs = a.cs := by
  have hf := shape_st ty_33 rfl h
  obtain ⟨c1, r1, rfl, _, s1, c2, r2, rfl, _, s2, c3, r3, rfl, _, s3, c4, r4, rfl, _, s4, c5, r5, rfl, _, s5, c6, r6, rfl, _, s6, c7, r7, rfl, _, s7, c8, r8, rfl, _, s8, c9, r9, rfl, _, s9, c10, r10, rfl, _, s10, c11, r11, rfl, _, s11, c12, r12, rfl, _, s12, c13, r13, rfl, _, s13, c14, r14, rfl, _, s14, rfl⟩ := hf
  obtain ⟨a1, rfl, _⟩ := shape_str ty_9 rfl s1
  obtain ⟨a2, rfl, _⟩ := shape_int ty_3 rfl s2
  obtain ⟨y3, rfl, _, h3⟩ := shape_sl ty_22 rfl s3
  obtain ⟨a3, rfl⟩ := list_of _ _ _ (label_of _) y3 h3
  obtain ⟨u4, rfl⟩ := res_cs _ _ s4
  obtain ⟨y5, rfl, _, h5⟩ := shape_sl ty_25 rfl s5
  obtain ⟨a5, rfl⟩ := list_of _ _ _ (bear_of _) y5 h5
  obtain ⟨y6, rfl, _, h6⟩ := shape_sl ty_26 rfl s6
  obtain ⟨a6, rfl⟩ := list_of _ _ _ (req_of _) y6 h6
  obtain ⟨y7, rfl, _, h7⟩ := shape_sl ty_27 rfl s7
  obtain ⟨a7, rfl⟩ := list_of _ _ _ (prefer_of _) y7 h7
  obtain ⟨y8, rfl, _, h8⟩ := shape_sl ty_28 rfl s8
  obtain ⟨a8, rfl⟩ := list_of _ _ _ (int_of _) y8 h8
  obtain ⟨y9, rfl, _, h9⟩ := shape_sl ty_29 rfl s9
  obtain ⟨a9, rfl⟩ := list_of _ _ _ (term_of _) y9 h9
  obtain ⟨y10, rfl, _, h10⟩ := shape_sl ty_29 rfl s10
  obtain ⟨a10, rfl⟩ := list_of _ _ _ (term_of _) y10 h10
  obtain ⟨y11, rfl, _, h11⟩ := shape_sl ty_30 rfl s11
  obtain ⟨a11, rfl⟩ := list_of _ _ _ (spread_of _) y11 h11
  obtain ⟨y12, rfl, _, h12⟩ := shape_sl ty_31 rfl s12
  obtain ⟨a12, rfl⟩ := list_of _ _ _ (str_of _) y12 h12
  obtain ⟨a13, rfl, _⟩ := shape_str ty_9 rfl s13
  obtain ⟨a14, rfl, _⟩ := shape_str ty_9 rfl s14
  exact ⟨⟨a1, a2, a3, u4, a5, a6, a7, a8, a9, a10, a11, a12, a13, a14⟩, rfl⟩
theorem pod_of (k : Nat) (cs : List D) (h : shape ty (k + 7) 33 cs) : ∃ a : Pod, elemT ty 33 cs = a.d := by
  obtain ⟨a, rfl⟩ := pod_cs k cs h
  exact ⟨a, elemT_agg ty_33 rfl⟩
theorem node_cs (k : Nat) (cs : List D) (h : shape ty (k + 4) 36 cs) : ∃ a : Node, cs = a.cs := by
  have hf := shape_st ty_36 rfl h
  obtain ⟨c1, r1, rfl, _, s1, c2, r2, rfl, _, s2, c3, r3, rfl, _, s3, c4, r4, rfl, _, s4, c5, r5, rfl, _, s5, c6, r6, rfl, _, s6, c7, r7, rfl, _, s7, rfl⟩ := hf
  obtain ⟨a1, rfl, _⟩ := shape_str ty_9 rfl s1
  obtain ⟨y2, rfl, _, h2⟩ := shape_sl ty_22 rfl s2
  obtain ⟨a2, rfl⟩ := list_of _ _ _ (label_of _) y2 h2
  obtain ⟨y3, rfl, _, h3⟩ := shape_sl ty_34 rfl s3
  obtain ⟨a3, rfl⟩ := list_of _ _ _ (taint_of _) y3 h3
  obtain ⟨a4, rfl⟩ := shape_bool ty_4 rfl s4
  obtain ⟨u5, rfl⟩ := res_cs _ _ s5
  obtain ⟨a6, rfl, _⟩ := shape_int ty_3 rfl s6
  obtain ⟨a7, rfl, _⟩ := shape_int ty_3 rfl s7
  exact ⟨⟨a1, a2, a3, a4, u5, a6, a7⟩, rfl⟩
theorem node_of (k : Nat) (cs : List D) (h : shape ty (k + 4) 36 cs) : ∃ a : Node, elemT ty 36 cs = a.d := by
  obtain ⟨a, rfl⟩ := node_cs k cs h
  exact ⟨a, elemT_agg ty_36 rfl⟩
theorem vol_cs (k : Nat) (cs : List D) (h : shape ty (k + 5) 48 cs) : ∃ a : Vol, cs = [.str a.name, .int .i64 a.size, .str a.cls, .sl (a.reqs.map Req.d), .str a.claim] := by
  have hf := shape_st ty_48 rfl h
  obtain ⟨c1, r1, rfl, _, s1, c2, r2, rfl, _, s2, c3, r3, rfl, _, s3, c4, r4, rfl, _, s4, c5, r5, rfl, _, s5, rfl⟩ := hf
  obtain ⟨a1, rfl, _⟩ := shape_str ty_9 rfl s1
  obtain ⟨a2, rfl, _⟩ := shape_int ty_3 rfl s2
  obtain ⟨a3, rfl, _⟩ := shape_str ty_9 rfl s3
  obtain ⟨y4, rfl, _, h4⟩ := shape_sl ty_26 rfl s4
  obtain ⟨a4, rfl⟩ := list_of _ _ _ (req_of _) y4 h4
  obtain ⟨a5, rfl, _⟩ := shape_str ty_9 rfl s5
  exact ⟨⟨a1, a2, a3, a4, a5⟩, rfl⟩
theorem vol_of (k : Nat) (cs : List D) (h : shape ty (k + 5) 48 cs) : ∃ a : Vol, elemT ty 48 cs = a.d := by
  obtain ⟨a, rfl⟩ := vol_cs k cs h
  exact ⟨a, elemT_agg ty_48 rfl⟩
theorem claim_cs (k : Nat) (cs : List D) (h : shape ty (k + 2) 61 cs) : ∃ a : Claim, cs = [.str a.name, .int .i64 a.size, .str a.cls, .str a.vol] := by
  have hf := shape_st ty_61 rfl h
  obtain ⟨c1, r1, rfl, _, s1, c2, r2, rfl, _, s2, c3, r3, rfl, _, s3, c4, r4, rfl, _, s4, rfl⟩ := hf
  obtain ⟨a1, rfl, _⟩ := shape_str ty_9 rfl s1
  obtain ⟨a2, rfl, _⟩ := shape_int ty_3 rfl s2
  obtain ⟨a3, rfl, _⟩ := shape_str ty_9 rfl s3
  obtain ⟨a4, rfl, _⟩ := shape_str ty_9 rfl s4
  exact ⟨⟨a1, a2, a3, a4⟩, rfl⟩
theorem claim_of (k : Nat) (cs : List D) (h : shape ty (k + 2) 61 cs) : ∃ a : Claim, elemT ty 61 cs = a.d := by
  obtain ⟨a, rfl⟩ := claim_cs k cs h
  exact ⟨a, elemT_agg ty_61 rfl⟩
theorem class_cs (k : Nat) (cs : List D) (h : shape ty (k + 2) 71 cs) : ∃ a : Class, cs = [.str a.name, .bool a.wait] := by
  have hf := shape_st ty_71 rfl h
  obtain ⟨c1, r1, rfl, _, s1, c2, r2, rfl, _, s2, rfl⟩ := hf
  obtain ⟨a1, rfl, _⟩ := shape_str ty_9 rfl s1
  obtain ⟨a2, rfl⟩ := shape_bool ty_4 rfl s2
  exact ⟨⟨a1, a2⟩, rfl⟩
theorem class_of (k : Nat) (cs : List D) (h : shape ty (k + 2) 71 cs) : ∃ a : Class, elemT ty 71 cs = a.d := by
  obtain ⟨a, rfl⟩ := class_cs k cs h
  exact ⟨a, elemT_agg ty_71 rfl⟩
theorem budget_cs (k : Nat) (cs : List D) (h : shape ty (k + 5) 78 cs) : ∃ a : Budget, cs = [.str a.name, .sl (a.reqs.map Req.d), .int .i64 a.least] := by
  have hf := shape_st ty_78 rfl h
  obtain ⟨c1, r1, rfl, _, s1, c2, r2, rfl, _, s2, c3, r3, rfl, _, s3, rfl⟩ := hf
  obtain ⟨a1, rfl, _⟩ := shape_str ty_9 rfl s1
  obtain ⟨y2, rfl, _, h2⟩ := shape_sl ty_26 rfl s2
  obtain ⟨a2, rfl⟩ := list_of _ _ _ (req_of _) y2 h2
  obtain ⟨a3, rfl, _⟩ := shape_int ty_3 rfl s3
  exact ⟨⟨a1, a2, a3⟩, rfl⟩
theorem budget_of (k : Nat) (cs : List D) (h : shape ty (k + 5) 78 cs) : ∃ a : Budget, elemT ty 78 cs = a.d := by
  obtain ⟨a, rfl⟩ := budget_cs k cs h
  exact ⟨a, elemT_agg ty_78 rfl⟩
theorem pick_cs (k : Nat) (cs : List D) (h : shape ty (k + 2) 67 cs) : ∃ a : Pick, cs = [.str a.claim, .str a.vol] := by
  have hf := shape_st ty_67 rfl h
  obtain ⟨c1, r1, rfl, _, s1, c2, r2, rfl, _, s2, rfl⟩ := hf
  obtain ⟨a1, rfl, _⟩ := shape_str ty_9 rfl s1
  obtain ⟨a2, rfl, _⟩ := shape_str ty_9 rfl s2
  exact ⟨⟨a1, a2⟩, rfl⟩
theorem pick_of (k : Nat) (cs : List D) (h : shape ty (k + 2) 67 cs) : ∃ a : Pick, elemT ty 67 cs = a.d := by
  obtain ⟨a, rfl⟩ := pick_cs k cs h
  exact ⟨a, elemT_agg ty_67 rfl⟩
theorem state_cs (k : Nat) (cs : List D) (h : shape ty (k + 9) 46 cs) : ∃ a : State, cs = a.cs := by
  have hf := shape_st ty_46 rfl h
  obtain ⟨c1, r1, rfl, _, s1, c2, r2, rfl, _, s2, c3, r3, rfl, _, s3, c4, r4, rfl, _, s4, c5, r5, rfl, _, s5, c6, r6, rfl, _, s6, rfl⟩ := hf
  obtain ⟨y1, rfl, _, h1⟩ := shape_sl ty_39 rfl s1
  obtain ⟨a1, rfl⟩ := list_of _ _ _ (pod_of _) y1 h1
  obtain ⟨y2, rfl, _, h2⟩ := shape_sl ty_40 rfl s2
  obtain ⟨a2, rfl⟩ := list_of _ _ _ (node_of _) y2 h2
  obtain ⟨y3, rfl, _, h3⟩ := shape_sl ty_41 rfl s3
  obtain ⟨a3, rfl⟩ := list_of _ _ _ (vol_of _) y3 h3
  obtain ⟨y4, rfl, _, h4⟩ := shape_sl ty_42 rfl s4
  obtain ⟨a4, rfl⟩ := list_of _ _ _ (claim_of _) y4 h4
  obtain ⟨y5, rfl, _, h5⟩ := shape_sl ty_43 rfl s5
  obtain ⟨a5, rfl⟩ := list_of _ _ _ (class_of _) y5 h5
  obtain ⟨y6, rfl, _, h6⟩ := shape_sl ty_44 rfl s6
  obtain ⟨a6, rfl⟩ := list_of _ _ _ (budget_of _) y6 h6
  exact ⟨⟨a1, a2, a3, a4, a5, a6⟩, rfl⟩
theorem state_of (k : Nat) (cs : List D) (h : shape ty (k + 9) 46 cs) : ∃ a : State, elemT ty 46 cs = a.d := by
  obtain ⟨a, rfl⟩ := state_cs k cs h
  exact ⟨a, elemT_agg ty_46 rfl⟩
theorem picks_of (k : Nat) (cs : List D) (h : shape ty (k + 3) 52 cs) : ∃ l : List Pick, cs = [.sl (l.map Pick.d)] := by
  obtain ⟨y, rfl, _, g⟩ := shape_sl ty_52 rfl h
  obtain ⟨l, rfl⟩ := list_of _ _ _ (pick_of _) y g
  exact ⟨l, rfl⟩
theorem small_bulk {α : Type} (enc : α → D) (l : List α) (h : D.bulkL (l.map enc) ≤ 1048576) : Small l := by
  have := D.bulkL_length (l.map enc)
  rw [List.length_map] at this
  unfold Small
  omega
theorem bulk_in {α : Type} (enc : α → D) {l : List α} {x : α} (h : x ∈ l) : (enc x).bulk ≤ D.bulkL (l.map enc) := D.bulkL_mem (List.mem_map.2 ⟨x, h, rfl⟩)
theorem reqs_bulk (l : List Req) (h : D.bulkL (l.map Req.d) ≤ 1048576) : Reqs.ok l := by
  refine ⟨small_bulk Req.d l h, fun r hr => ?_⟩
  have := bulk_in Req.d hr
  simp only [Req.d, D.bulk, D.bulkL] at this
  exact small_bulk strD _ (by omega)
theorem pod_bulk (p : Pod) (h : p.d.bulk ≤ 1048576) : p.ok := by
  simp only [Pod.d, Pod.cs, D.bulk, D.bulkL] at h
  refine ⟨small_bulk Label.d _ (by omega), small_bulk Bear.d _ (by omega), reqs_bulk _ (by omega), ⟨small_bulk Prefer.d _ (by omega), fun y hy => ?_⟩, small_bulk intD _ (by omega), ⟨small_bulk Term.d _ (by omega), fun y hy => ?_⟩, ⟨small_bulk Term.d _ (by omega), fun y hy => ?_⟩, ⟨small_bulk Spread.d _ (by omega), fun y hy => ?_⟩, small_bulk strD _ (by omega)⟩
  · have := bulk_in Prefer.d hy
    simp only [Prefer.d, D.bulk, D.bulkL] at this
    exact reqs_bulk _ (by omega)
  · have := bulk_in Term.d hy
    simp only [Term.d, D.bulk, D.bulkL] at this
    exact reqs_bulk _ (by omega)
  · have := bulk_in Term.d hy
    simp only [Term.d, D.bulk, D.bulkL] at this
    exact reqs_bulk _ (by omega)
  · have := bulk_in Spread.d hy
    simp only [Spread.d, D.bulk, D.bulkL] at this
    exact reqs_bulk _ (by omega)
theorem node_bulk (n : Node) (h : n.d.bulk ≤ 1048576) : n.ok := by
  simp only [Node.d, Node.cs, D.bulk, D.bulkL] at h
  exact ⟨small_bulk Label.d _ (by omega), small_bulk Taint.d _ (by omega)⟩
theorem vol_bulk (v : Vol) (h : v.d.bulk ≤ 1048576) : v.ok := by
  simp only [Vol.d, D.bulk, D.bulkL] at h
  exact reqs_bulk _ (by omega)
theorem budget_bulk (v : Budget) (h : v.d.bulk ≤ 1048576) : v.ok := by
  simp only [Budget.d, D.bulk, D.bulkL] at h
  exact reqs_bulk _ (by omega)
theorem state_bulk (s : State) (h : s.d.bulk ≤ 1048576) : s.ok ∧ s.small := by
  simp only [State.d, State.cs, D.bulk, D.bulkL] at h
  have h1 : D.bulkL (s.pods.map Pod.d) ≤ 1048576 := by omega
  have h2 : D.bulkL (s.nodes.map Node.d) ≤ 1048576 := by omega
  have h3 : D.bulkL (s.vols.map Vol.d) ≤ 1048576 := by omega
  have h4 : D.bulkL (s.claims.map Claim.d) ≤ 1048576 := by omega
  have h5 : D.bulkL (s.classes.map Class.d) ≤ 1048576 := by omega
  have h6 : D.bulkL (s.budgets.map Budget.d) ≤ 1048576 := by omega
  have g1 := small_bulk Pod.d _ h1
  have g2 := small_bulk Node.d _ h2
  have g3 := small_bulk Vol.d _ h3
  have g4 := small_bulk Claim.d _ h4
  have g5 := small_bulk Class.d _ h5
  have g6 := small_bulk Budget.d _ h6
  exact ⟨⟨⟨g1, fun p hp => pod_bulk p (Nat.le_trans (bulk_in Pod.d hp) h1)⟩, ⟨g2, fun p hp => node_bulk p (Nat.le_trans (bulk_in Node.d hp) h2)⟩, ⟨g3, fun p hp => vol_bulk p (Nat.le_trans (bulk_in Vol.d hp) h3)⟩, g4, g5, ⟨g6, fun p hp => budget_bulk p (Nat.le_trans (bulk_in Budget.d hp) h6)⟩⟩, ⟨g1, g2, g3, g4, g5, g6⟩⟩
end Go.Wm.Try1
