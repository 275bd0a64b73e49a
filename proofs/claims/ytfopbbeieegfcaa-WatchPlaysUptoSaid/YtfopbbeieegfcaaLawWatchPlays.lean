/-
  'WatchPlays' (13.1, 13.2): a watcher answers whatever calls as the document says, and so does a clone: the law returns true for every input of bulk at most 1048576.
-/
import Derived.Test.YtfopbbeieegfcaaRows
import Derived.Test.YtfopbbeieegfcaaL1
import Derived.WalkKit
import Derived.ProofKit
import Derived.OpenShut
import Derived.JoinedCond
set_option linter.unusedSectionVars false
set_option linter.unnecessarySimpa false
set_option linter.defProp false
namespace Go.Proofs.Ytfopbbeieegfcaa.watchPlays
open Go.ChangeShapes Go.WideShapes Go.ChangeAt Go.RowKit Go.Wm
set_option linter.unusedVariables false
set_option linter.unusedSimpArgs false

theorem own : ownKnob Try.prog.godebug = none := by kernel_rfl
theorem laid : laidOutB Try.prog = true := by kernel_rfl

def bulk (H : Type) : Bulk H where
  one := Rows.uptoBulk
  all := Rows.uptoBulkAll
  pos := fun d => by
    cases d with
    | lit l => cases l <;> simp [Rows.uptoBulk]
    | _ => simp [Rows.uptoBulk]
  str := fun b => by simp [Rows.uptoBulk]
  slice := fun es sp => by simp only [Rows.uptoBulk]; omega
  agg := fun ps => by simp [Rows.uptoBulk]
  nil := by simp [Rows.uptoBulkAll]
  cons := fun d r => by simp [Rows.uptoBulkAll]

set_option maxRecDepth 100000 in
theorem contract (H : Type) (enc : TypeId × Value → H) (W : World) (base : Nat) (args : Array Value) (ds gs : List (DataW H)) (before : List MemPlace)
    (hval : ∀ (j : Nat) t v, Try.f10.params[j]? = some t → args[j]? = some v → Value.okWide Try.prog W .any base t v)
    (hk : Rows.uptoSmall H (ds ++ gs) = true)
    (hW : DataW.Whole enc Try.prog Try.f10.params.toList Rows.watchPlaysSpec.vars false W args.toList ds gs before) :
    Calls Try.prog 10 args W fun e W' => ∃ v, e = .returned v ∧ Rows.watchPlaysSpec.post enc Try.prog Try.f10 false true false false W args v W' := by
  have hs : (Rows.watchPlaysSpec.fn H (ds ++ gs)).results = [.lit (.bool true)] ∧ (Rows.watchPlaysSpec.fn H (ds ++ gs)).args = ds ∧ (Rows.watchPlaysSpec.fn H (ds ++ gs)).vars = [] := by
    have hW' := hW
    obtain ⟨p, q, hA0, hV, rfl, hfz, hnd⟩ := hW'
    have hA : DataW.TrodAll enc Try.prog W 0 (fun _ => true) true Try.f10.params.toList args.toList ds p := hA0
    rw [Try.params10] at hA
    obtain ⟨rfl, rfl⟩ := trodVars_none hV
    obtain ⟨v0, vs0, d0, ds0, p0, q0, hargs, rfl, rfl, h0, r0⟩ := trodAll_cons hA
    obtain ⟨v1, vs1, d1, ds1, p1, q1, _, rfl, rfl, h1, r1⟩ := trodAll_cons r0
    obtain ⟨v2, vs2, d2, ds2, p2, q2, _, rfl, rfl, h2, r2⟩ := trodAll_cons r1
    obtain ⟨_, rfl, _⟩ := trodAll_nil r2
    exact ⟨rfl, rfl, rfl⟩
  have hsm : Rows.uptoBulkAll ds ≤ 1048576 := by
    have hW' := hW
    obtain ⟨p, q, _, hV, _⟩ := hW'
    obtain ⟨rfl, _⟩ := trodVars_none hV
    simpa [Rows.uptoSmall] using hk
  refine law_post (P := Try.prog) (ty := Go.Wm.Try1.ty) (f := 10) (fn := Try.f10) (s := Rows.watchPlaysSpec) (k := 4) Go.Wm.Try1.tyOk (bulk H) laid (tb := 4) (by kernel_rfl) (by kernel_rfl) rfl (by kernel_rfl) Try.underlying4 (enc := enc) (W := W) (base := base) (args := args) (ds := ds) (gs := gs) (before := before) hval hW hs fun xs hx hb => ?_
  rw [Try.params10] at hx
  obtain ⟨c1, r1, rfl, s1, c2, r2, rfl, s2, c3, r3, rfl, s3, rfl⟩ := hx
  obtain ⟨x1, rfl, _⟩ := shape_int Go.Wm.Try1.ty_3 rfl s1
  obtain ⟨y2, rfl, _, h2⟩ := shape_sl Go.Wm.Try1.ty_22 rfl s2
  obtain ⟨x2, rfl, _⟩ := Go.Wm.Try1.ints_of _ _ _ Go.Wm.Try1.ty_3 rfl y2 h2
  obtain ⟨y3, rfl, _, h3⟩ := shape_sl Go.Wm.Try1.ty_47 rfl s3
  obtain ⟨x3, rfl⟩ := Go.Wm.Try1.acts_of _ y3 h3
  rw [elemT_one Go.Wm.Try1.ty_3 rfl, elemT_one Go.Wm.Try1.ty_22 rfl, elemT_one Go.Wm.Try1.ty_47 rfl] at hb ⊢
  have hb' := Nat.le_trans hb hsm
  simp only [D.bulkL, D.bulk] at hb'
  have e2 := D.bulkL_length (x2.map (D.int .i64))
  rw [List.length_map] at e2
  have e3 := D.bulkL_length (x3.map Go.Wm.Try1.Act.d)
  rw [List.length_map] at e3
  exact Go.Wm.Try1.ok10.2 _ _ _ _ (Go.Wm.Try1.watchPlays_eq x1 x2 (by omega) x3 (by omega))
set_option maxRecDepth 100000 in
theorem lifted (os : Os) (started : os.Started) (H : Type) (enc : TypeId × Value → H) (F : Stop.Interp) :
    ReturnsInHanded {} Try.checked os 10 .any ((Rows.OpenSpec.upto Rows.watchPlaysSpec).pre6 enc Try.prog Try.f10 Rows.watchPlaysUptoRow.domain false) (((Rows.OpenSpec.upto Rows.watchPlaysSpec).at F).post enc Try.prog Try.f10 false true false false) := by
  refine returnsInHanded_of_cond (C := Try.checked) (s := Rows.OpenSpec.upto Rows.watchPlaysSpec) (k := Rows.uptoSmall) rfl own started (by kernel_rfl) Try.func10
    (OpenSpec.witness (enc := enc) (C := Try.checked) (s := Rows.OpenSpec.upto Rows.watchPlaysSpec) (k := Rows.uptoSmall) rfl false ⟨#[], #[.int .i64 0, .slice none 0 0, .slice none 0 0], []⟩ 8 (by kernel_rfl) (by kernel_rfl) (by kernel_rfl)
      (x := ([.lit (.int .i64 0), .nil, .nil], [], [])) (by kernel_rfl) rfl (by kernel_rfl)) ?_
  intro W base args ds gs before hval hW _ hk _
  exact contract H enc W base args ds gs before hval hk hW

theorem over : Rows.watchPlaysUptoRow.holds Try.pinned (Rows.OpenSpec.upto Rows.watchPlaysSpec) :=
  OpenClaim.holds_of_cond 10 Try.f10 rfl rfl rfl rfl rfl rfl rfl ⟨rfl, rfl, rfl, rfl, rfl⟩ rfl rfl rfl rfl rfl (by kernel_rfl) Try.func10 (by kernel_rfl)
    (of_decide_eq_true (by kernel_rfl)) (by unfold Func.isWrapper; first | (rw [if_pos (by decide +kernel)]; kernel_rfl) | (rw [if_neg (by decide +kernel)]; exact ⟨rfl, rfl⟩))
    (fun os started H enc _ F => lifted os started H enc F)

theorem proved : Rows.WatchPlaysUptoSaid :=
  over

end Go.Proofs.Ytfopbbeieegfcaa.watchPlays
