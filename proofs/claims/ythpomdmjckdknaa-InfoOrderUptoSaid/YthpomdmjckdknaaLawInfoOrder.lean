/-
  'InfoOrder' (6.3): pods that come one by one, in whatever order, come to the info of all, as long as no sum is too great: the law returns true for every input of bulk at most 1048576.
-/
import Derived.Test.YthpomdmjckdknaaRows
import Derived.Test.YthpomdmjckdknaaMF
import Derived.WalkKit
import Derived.ProofKit
import Derived.OpenShut
import Derived.JoinedCond
set_option linter.unusedSectionVars false
set_option linter.unnecessarySimpa false
set_option linter.defProp false
namespace Go.Proofs.Ythpomdmjckdknaa.infoOrder
open Go.ChangeShapes Go.WideShapes Go.ChangeAt Go.RowKit Go.Wm
set_option linter.unusedVariables false
set_option linter.unusedSimpArgs false

theorem own : ownKnob Try.prog.godebug = none := by kernel_rfl
theorem laid : laidOutB Try.prog = true := by kernel_rfl

def bulk (H : Type) : Bulk H where
  one := Rows.uptoBulk
  all := Rows.uptoBulkAll
  pos := fun d => by
    cases d with
    | lit l => cases l <;> simp [Rows.uptoBulk]
    | _ => simp [Rows.uptoBulk]
  str := fun b => by simp [Rows.uptoBulk]
  slice := fun es sp => by simp only [Rows.uptoBulk]; omega
  agg := fun ps => by simp [Rows.uptoBulk]
  nil := by simp [Rows.uptoBulkAll]
  cons := fun d r => by simp [Rows.uptoBulkAll]

set_option maxRecDepth 100000 in
theorem contract (H : Type) (enc : TypeId × Value → H) (W : World) (base : Nat) (args : Array Value) (ds gs : List (DataW H)) (before : List MemPlace)
    (hval : ∀ (j : Nat) t v, Try.f4.params[j]? = some t → args[j]? = some v → Value.okWide Try.prog W .any base t v)
    (hk : Rows.uptoSmall H (ds ++ gs) = true)
    (hW : DataW.Whole enc Try.prog Try.f4.params.toList Rows.infoOrderSpec.vars false W args.toList ds gs before) :
    Calls Try.prog 4 args W fun e W' => ∃ v, e = .returned v ∧ Rows.infoOrderSpec.post enc Try.prog Try.f4 false true false false W args v W' := by
  have hs : (Rows.infoOrderSpec.fn H (ds ++ gs)).results = [.lit (.bool true)] ∧ (Rows.infoOrderSpec.fn H (ds ++ gs)).args = ds ∧ (Rows.infoOrderSpec.fn H (ds ++ gs)).vars = [] := by
    have hW' := hW
    obtain ⟨p, q, hA0, hV, rfl, hfz, hnd⟩ := hW'
    have hA : DataW.TrodAll enc Try.prog W 0 (fun _ => true) true Try.f4.params.toList args.toList ds p := hA0
    rw [Try.params4] at hA
    obtain ⟨rfl, rfl⟩ := trodVars_none hV
    obtain ⟨v0, vs0, d0, ds0, p0, q0, hargs, rfl, rfl, h0, r0⟩ := trodAll_cons hA
    obtain ⟨v1, vs1, d1, ds1, p1, q1, _, rfl, rfl, h1, r1⟩ := trodAll_cons r0
    obtain ⟨v2, vs2, d2, ds2, p2, q2, _, rfl, rfl, h2, r2⟩ := trodAll_cons r1
    obtain ⟨_, rfl, _⟩ := trodAll_nil r2
    exact ⟨rfl, rfl, rfl⟩
  have hsm : Rows.uptoBulkAll ds ≤ 1048576 := by
    have hW' := hW
    obtain ⟨p, q, _, hV, _⟩ := hW'
    obtain ⟨rfl, _⟩ := trodVars_none hV
    simpa [Rows.uptoSmall] using hk
  refine law_post (P := Try.prog) (ty := Go.Wm.Try1.ty) (f := 4) (fn := Try.f4) (s := Rows.infoOrderSpec) (k := 8) Go.Wm.Try1.tyOk (bulk H) laid (tb := 4) (by kernel_rfl) (by kernel_rfl) rfl (by kernel_rfl) Try.underlying4 (enc := enc) (W := W) (base := base) (args := args) (ds := ds) (gs := gs) (before := before) hval hW hs fun xs hx hb => ?_
  rw [Try.params4] at hx
  obtain ⟨c1, r1, rfl, s1, c2, r2, rfl, s2, c3, r3, rfl, s3, rfl⟩ := hx
  obtain ⟨x1, rfl⟩ := Go.Wm.Try1.node_cs 4 _ s1
  obtain ⟨x2, rfl⟩ := Go.Wm.Try1.pods_of 0 _ s2
  obtain ⟨x3, rfl, _⟩ := shape_int Go.Wm.Try1.ty_3 rfl s3
  rw [elemT_agg Go.Wm.Try1.ty_27 rfl, elemT_one Go.Wm.Try1.ty_28 rfl, elemT_one Go.Wm.Try1.ty_3 rfl] at hb ⊢
  have hb' := Nat.le_trans hb hsm
  simp only [D.bulkL] at hb'
  have g1 := Go.Wm.Try1.node_bulk x1 (by show (D.agg x1.cs).bulk ≤ _; omega)
  have q2 : (D.sl (x2.map Go.Wm.Try1.Pod.d)).bulk = D.bulkL (x2.map Go.Wm.Try1.Pod.d) + 1 := by simp only [D.bulk]
  have g2 := Go.Wm.Try1.pods_bulk x2 (by omega)
  exact Go.Wm.Try1.ok4.2 _ _ _ _ (Go.Wm.Try1.order_eq x1 x2 x3 g1 g2.1 g2.2 (Go.Wm.Try1.len_bulk x2 (by omega)))
set_option maxRecDepth 100000 in
theorem lifted (os : Os) (started : os.Started) (H : Type) (enc : TypeId × Value → H) (F : Stop.Interp) :
    ReturnsInHanded {} Try.checked os 4 .any ((Rows.OpenSpec.upto Rows.infoOrderSpec).pre6 enc Try.prog Try.f4 Rows.infoOrderUptoRow.domain false) (((Rows.OpenSpec.upto Rows.infoOrderSpec).at F).post enc Try.prog Try.f4 false true false false) := by
  refine returnsInHanded_of_cond (C := Try.checked) (s := Rows.OpenSpec.upto Rows.infoOrderSpec) (k := Rows.uptoSmall) rfl own started (by kernel_rfl) Try.func4
    (OpenSpec.witness (enc := enc) (C := Try.checked) (s := Rows.OpenSpec.upto Rows.infoOrderSpec) (k := Rows.uptoSmall) rfl false ⟨#[], #[.agg #[.string .empty, .slice none 0 0, .slice none 0 0, .bool false, .int .i64 0, .int .i64 0, .int .i64 0, .int .i64 0, .int .i64 0], .slice none 0 0, .int .i64 0], []⟩ 8 (by kernel_rfl) (by kernel_rfl) (by kernel_rfl)
      (x := ([.agg [.lit (.string []), .nil, .nil, .lit (.bool false), .agg [.lit (.int .i64 0), .lit (.int .i64 0), .lit (.int .i64 0)], .lit (.int .i64 0), .lit (.int .i64 0)], .nil, .lit (.int .i64 0)], [], [])) (by kernel_rfl) rfl (by kernel_rfl)) ?_
  intro W base args ds gs before hval hW _ hk _
  exact contract H enc W base args ds gs before hval hk hW

theorem over : Rows.infoOrderUptoRow.holds Try.pinned (Rows.OpenSpec.upto Rows.infoOrderSpec) :=
  OpenClaim.holds_of_cond 4 Try.f4 rfl rfl rfl rfl rfl rfl rfl ⟨rfl, rfl, rfl, rfl, rfl⟩ rfl rfl rfl rfl rfl (by kernel_rfl) Try.func4 (by kernel_rfl)
    (of_decide_eq_true (by kernel_rfl)) (by unfold Func.isWrapper; first | (rw [if_pos (by decide +kernel)]; kernel_rfl) | (rw [if_neg (by decide +kernel)]; exact ⟨rfl, rfl⟩))
    (fun os started H enc _ F => lifted os started H enc F)

theorem proved : Rows.InfoOrderUptoSaid :=
  over

end Go.Proofs.Ythpomdmjckdknaa.infoOrder
