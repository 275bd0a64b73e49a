/-
  'WatchNone' (13.1): a watcher that no call made refuses all: the law returns true whatever the call is. No condition.
-/
import Derived.Test.YtfopbbeieegfcaaRows
import Derived.Test.YtfopbbeieegfcaaWatch5
import Derived.WalkKit
import Derived.ProofKit
import Derived.OpenShut
import Derived.JoinedCond
set_option linter.unusedSectionVars false
set_option linter.unnecessarySimpa false
namespace Go.Proofs.Ytfopbbeieegfcaa.watchNone
open Go.ChangeShapes Go.WideShapes Go.ChangeAt Go.RowKit Go.Vm
set_option linter.unusedVariables false
set_option linter.unusedSimpArgs false

theorem own : ownKnob Try.prog.godebug = none := by kernel_rfl
theorem laid : laidOutB Try.prog = true := by kernel_rfl

def bulk (H : Type) : Bulk H where
  one := Rows.uptoBulk
  all := Rows.uptoBulkAll
  pos := fun d => by
    cases d with
    | lit l => cases l <;> simp [Rows.uptoBulk]
    | _ => simp [Rows.uptoBulk]
  str := fun b => by simp [Rows.uptoBulk]
  slice := fun es sp => by simp only [Rows.uptoBulk]; omega
  agg := fun ps => by simp [Rows.uptoBulk]
  nil := by simp [Rows.uptoBulkAll]
  cons := fun d r => by simp [Rows.uptoBulkAll]

set_option maxRecDepth 100000 in
theorem contract (H : Type) (enc : TypeId × Value → H) (W : World) (base : Nat) (args : Array Value) (ds gs : List (DataW H)) (before : List MemPlace)
    (hval : ∀ (j : Nat) t v, Try.f11.params[j]? = some t → args[j]? = some v → Value.okWide Try.prog W .any base t v)
    (hW : DataW.Whole enc Try.prog Try.f11.params.toList Rows.watchNoneSpec.vars false W args.toList ds gs before) :
    Calls Try.prog 11 args W fun e W' => ∃ v, e = .returned v ∧ Rows.watchNoneSpec.post enc Try.prog Try.f11 false true false false W args v W' := by
  have hs : (Rows.watchNoneSpec.fn H (ds ++ gs)).results = [.lit (.bool true)] ∧ (Rows.watchNoneSpec.fn H (ds ++ gs)).args = ds ∧ (Rows.watchNoneSpec.fn H (ds ++ gs)).vars = [] := by
    have hW' := hW
    obtain ⟨p, q, hA0, hV, rfl, hfz, hnd⟩ := hW'
    have hA : DataW.TrodAll enc Try.prog W 0 (fun _ => true) true Try.f11.params.toList args.toList ds p := hA0
    rw [Try.params11] at hA
    obtain ⟨rfl, rfl⟩ := trodVars_none hV
    obtain ⟨v0, vs0, d0, ds0, p0, q0, hargs, rfl, rfl, h0, r0⟩ := trodAll_cons hA
    obtain ⟨_, rfl, _⟩ := trodAll_nil r0
    exact ⟨rfl, rfl, rfl⟩
  refine law_post (P := Try.prog) (ty := Go.Vm.Try1.ty) (f := 11) (fn := Try.f11) (s := Rows.watchNoneSpec) (k := 4) Go.Vm.Try1.tyOk (bulk H) laid (tb := 4) (by kernel_rfl) (by kernel_rfl) rfl (by kernel_rfl) Try.underlying4 (enc := enc) (W := W) (base := base) (args := args) (ds := ds) (gs := gs) (before := before) hval hW hs fun xs hx hb => ?_
  rw [Try.params11] at hx
  obtain ⟨c1, r, rfl, hc, rfl⟩ := hx
  have f1 := shape_st Go.Vm.Try1.ty_49 rfl hc
  obtain ⟨a1, b1, rfl, l1, h1, a2, b2, rfl, l2, h2, a3, b3, rfl, l3, h3, rfl⟩ := f1
  obtain ⟨x, rfl, _⟩ := shape_int Go.Vm.Try1.ty_3 rfl h1
  obtain ⟨y, rfl, _⟩ := shape_int Go.Vm.Try1.ty_3 rfl h2
  obtain ⟨z, rfl, _⟩ := shape_int Go.Vm.Try1.ty_3 rfl h3
  rw [elemT_agg Go.Vm.Try1.ty_49 rfl]
  exact Go.Vm.Try1.ok11.2 _ _ _ _ (Go.Vm.Try1.law11 x y z)
set_option maxRecDepth 100000 in
theorem lifted (os : Os) (started : os.Started) (H : Type) (enc : TypeId × Value → H) :
    ReturnsInHanded {} Try.checked os 11 .any (Rows.watchNoneSpec.pre6 enc Try.prog Try.f11 Rows.watchNoneRow.domain false) (Rows.watchNoneSpec.post enc Try.prog Try.f11 false true false false) := by
  refine returnsInHanded_of_change (C := Try.checked) own started (by kernel_rfl) Try.func11
    (ChangeSpec.witness6 (enc := enc) (C := Try.checked) false ⟨#[], #[.agg #[.int .i64 0, .int .i64 0, .int .i64 0]], []⟩ 8 (by kernel_rfl) (by kernel_rfl) (by kernel_rfl) (by kernel_rfl)) ?_
  intro W base args ds gs before hval hW _ _
  exact contract H enc W base args ds gs before hval hW

theorem over : Rows.watchNoneRow.holds Try.pinned (OpenSpec.ofChange Rows.watchNoneSpec) :=
  OpenClaim.holds_of_wide 11 Try.f11 rfl rfl rfl rfl rfl rfl rfl ⟨rfl, rfl, rfl, rfl, rfl⟩ rfl rfl rfl rfl rfl (by kernel_rfl) Try.func11 (by kernel_rfl)
    (of_decide_eq_true (by kernel_rfl)) (by unfold Func.isWrapper; first | (rw [if_pos (by decide +kernel)]; kernel_rfl) | (rw [if_neg (by decide +kernel)]; exact ⟨rfl, rfl⟩))
    (fun os started H enc _ => lifted os started H enc)

theorem proved : Rows.WatchNoneSaid :=
  over

end Go.Proofs.Ytfopbbeieegfcaa.watchNone
