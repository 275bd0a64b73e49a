/-
  'TaskPlays' (20.1): a task steps through its states by whatever codes as the document says, and so does a clone: the law returns true for every input of bulk at most 1048576.
-/
import Derived.Test.YtfopbbeieegfcaaRows
import Derived.Test.YtfopbbeieegfcaaL2
import Derived.WalkKit
import Derived.ProofKit
import Derived.OpenShut
import Derived.JoinedCond
set_option linter.unusedSectionVars false
set_option linter.unnecessarySimpa false
set_option linter.defProp false
namespace Go.Proofs.Ytfopbbeieegfcaa.taskPlays
open Go.ChangeShapes Go.WideShapes Go.ChangeAt Go.RowKit Go.Wm
set_option linter.unusedVariables false
set_option linter.unusedSimpArgs false

theorem own : ownKnob Try.prog.godebug = none := by kernel_rfl
theorem laid : laidOutB Try.prog = true := by kernel_rfl

def bulk (H : Type) : Bulk H where
  one := Rows.uptoBulk
  all := Rows.uptoBulkAll
  pos := fun d => by
    cases d with
    | lit l => cases l <;> simp [Rows.uptoBulk]
    | _ => simp [Rows.uptoBulk]
  str := fun b => by simp [Rows.uptoBulk]
  slice := fun es sp => by simp only [Rows.uptoBulk]; omega
  agg := fun ps => by simp [Rows.uptoBulk]
  nil := by simp [Rows.uptoBulkAll]
  cons := fun d r => by simp [Rows.uptoBulkAll]

set_option maxRecDepth 100000 in
theorem contract (H : Type) (enc : TypeId × Value → H) (W : World) (base : Nat) (args : Array Value) (ds gs : List (DataW H)) (before : List MemPlace)
    (hval : ∀ (j : Nat) t v, Try.f12.params[j]? = some t → args[j]? = some v → Value.okWide Try.prog W .any base t v)
    (hk : Rows.uptoSmall H (ds ++ gs) = true)
    (hW : DataW.Whole enc Try.prog Try.f12.params.toList Rows.taskPlaysSpec.vars false W args.toList ds gs before) :
    Calls Try.prog 12 args W fun e W' => ∃ v, e = .returned v ∧ Rows.taskPlaysSpec.post enc Try.prog Try.f12 false true false false W args v W' := by
  have hs : (Rows.taskPlaysSpec.fn H (ds ++ gs)).results = [.lit (.bool true)] ∧ (Rows.taskPlaysSpec.fn H (ds ++ gs)).args = ds ∧ (Rows.taskPlaysSpec.fn H (ds ++ gs)).vars = [] := by
    have hW' := hW
    obtain ⟨p, q, hA0, hV, rfl, hfz, hnd⟩ := hW'
    have hA : DataW.TrodAll enc Try.prog W 0 (fun _ => true) true Try.f12.params.toList args.toList ds p := hA0
    rw [Try.params12] at hA
    obtain ⟨rfl, rfl⟩ := trodVars_none hV
    obtain ⟨v0, vs0, d0, ds0, p0, q0, hargs, rfl, rfl, h0, r0⟩ := trodAll_cons hA
    obtain ⟨v1, vs1, d1, ds1, p1, q1, _, rfl, rfl, h1, r1⟩ := trodAll_cons r0
    obtain ⟨_, rfl, _⟩ := trodAll_nil r1
    exact ⟨rfl, rfl, rfl⟩
  have hsm : Rows.uptoBulkAll ds ≤ 1048576 := by
    have hW' := hW
    obtain ⟨p, q, _, hV, _⟩ := hW'
    obtain ⟨rfl, _⟩ := trodVars_none hV
    simpa [Rows.uptoSmall] using hk
  refine law_post (P := Try.prog) (ty := Go.Wm.Try1.ty) (f := 12) (fn := Try.f12) (s := Rows.taskPlaysSpec) (k := 4) Go.Wm.Try1.tyOk (bulk H) laid (tb := 4) (by kernel_rfl) (by kernel_rfl) rfl (by kernel_rfl) Try.underlying4 (enc := enc) (W := W) (base := base) (args := args) (ds := ds) (gs := gs) (before := before) hval hW hs fun xs hx hb => ?_
  rw [Try.params12] at hx
  obtain ⟨c1, r1, rfl, s1, c2, r2, rfl, s2, rfl⟩ := hx
  obtain ⟨p, n, ps, ns, l, rfl⟩ := Go.Wm.Try1.bind_of 0 _ s1
  obtain ⟨y2, rfl, _, h2⟩ := shape_sl Go.Wm.Try1.ty_22 rfl s2
  obtain ⟨x2, rfl, _⟩ := Go.Wm.Try1.ints_of _ _ _ Go.Wm.Try1.ty_3 rfl y2 h2
  rw [elemT_agg Go.Wm.Try1.ty_38 rfl, elemT_one Go.Wm.Try1.ty_22 rfl] at hb ⊢
  have hb' := Nat.le_trans hb hsm
  simp only [D.bulkL, D.bulk] at hb'
  have e1 := D.bulkL_length (Go.Wm.Try1.pksD l)
  rw [Go.Wm.Try1.pksD_len] at e1
  have e2 := D.bulkL_length (x2.map (D.int .i64))
  rw [List.length_map] at e2
  exact Go.Wm.Try1.ok12.2 _ _ _ _ (Go.Wm.Try1.taskPlays_eq p n ps ns l (by omega) x2 (by omega))
set_option maxRecDepth 100000 in
theorem lifted (os : Os) (started : os.Started) (H : Type) (enc : TypeId × Value → H) (F : Stop.Interp) :
    ReturnsInHanded {} Try.checked os 12 .any ((Rows.OpenSpec.upto Rows.taskPlaysSpec).pre6 enc Try.prog Try.f12 Rows.taskPlaysUptoRow.domain false) (((Rows.OpenSpec.upto Rows.taskPlaysSpec).at F).post enc Try.prog Try.f12 false true false false) := by
  refine returnsInHanded_of_cond (C := Try.checked) (s := Rows.OpenSpec.upto Rows.taskPlaysSpec) (k := Rows.uptoSmall) rfl own started (by kernel_rfl) Try.func12
    (OpenSpec.witness (enc := enc) (C := Try.checked) (s := Rows.OpenSpec.upto Rows.taskPlaysSpec) (k := Rows.uptoSmall) rfl false ⟨#[], #[.agg #[.string .empty, .string .empty, .int .i64 0, .int .i64 0, .slice none 0 0], .slice none 0 0], []⟩ 8 (by kernel_rfl) (by kernel_rfl) (by kernel_rfl)
      (x := ([.agg [.lit (.string []), .lit (.string []), .lit (.int .i64 0), .lit (.int .i64 0), .nil], .nil], [], [])) (by kernel_rfl) rfl (by kernel_rfl)) ?_
  intro W base args ds gs before hval hW _ hk _
  exact contract H enc W base args ds gs before hval hk hW

theorem over : Rows.taskPlaysUptoRow.holds Try.pinned (Rows.OpenSpec.upto Rows.taskPlaysSpec) :=
  OpenClaim.holds_of_cond 12 Try.f12 rfl rfl rfl rfl rfl rfl rfl ⟨rfl, rfl, rfl, rfl, rfl⟩ rfl rfl rfl rfl rfl (by kernel_rfl) Try.func12 (by kernel_rfl)
    (of_decide_eq_true (by kernel_rfl)) (by unfold Func.isWrapper; first | (rw [if_pos (by decide +kernel)]; kernel_rfl) | (rw [if_neg (by decide +kernel)]; exact ⟨rfl, rfl⟩))
    (fun os started H enc _ F => lifted os started H enc F)

theorem proved : Rows.TaskPlaysUptoSaid :=
  over

end Go.Proofs.Ytfopbbeieegfcaa.taskPlays
