/-
  A part of the proof: an abstract run of the program, shown to be what the model does, and what it comes to.
-/
import Derived.Test.YtfopbbeieegfcaaVmX
import Derived.Test.YtfopbbeieegfcaaProg
import Derived.KernelRfl
set_option linter.unusedSectionVars false
set_option linter.unnecessarySimpa false
set_option maxRecDepth 100000
set_option linter.unusedVariables false
set_option linter.unusedSimpArgs false
namespace Go.Vm.Try1
open Go Go.Vm Go.Proofs
def tab : List (Nat × TI) := [
  (3, ⟨.int .i64, 1, 8, .int .i64 0⟩),
  (4, ⟨.bool, 1, 1, .bool false⟩),
  (9, ⟨.str, 1, 16, .str .empty⟩),
  (22, ⟨.sl 3 1 8, 1, 24, .sl true 0 []⟩),
  (24, ⟨.sl 78 42 640, 1, 24, .sl true 0 []⟩),
  (27, ⟨.ptr 92, 1, 8, .nilp⟩),
  (29, ⟨.int .i64, 1, 8, .int .i64 0⟩),
  (36, ⟨.sl 95 2 32, 1, 24, .sl true 0 []⟩),
  (38, ⟨.st [(0, 9, 1), (1, 9, 1), (2, 3, 1), (3, 3, 1), (4, 36, 1)], 5, 72, .agg [.str .empty, .str .empty, .int .i64 0, .int .i64 0, .sl true 0 []]⟩),
  (39, ⟨.ptr 102, 1, 8, .nilp⟩),
  (47, ⟨.sl 49 3 24, 1, 24, .sl true 0 []⟩),
  (49, ⟨.st [(0, 3, 1), (1, 3, 1), (2, 3, 1)], 3, 24, .agg [.int .i64 0, .int .i64 0, .int .i64 0]⟩),
  (53, ⟨.sl 132 2 32, 1, 24, .sl true 0 []⟩),
  (55, ⟨.st [(0, 3, 1), (1, 3, 1), (2, 3, 1)], 3, 24, .agg [.int .i64 0, .int .i64 0, .int .i64 0]⟩),
  (56, ⟨.sl 134 4 48, 1, 24, .sl true 0 []⟩),
  (57, ⟨.sl 136 3 48, 1, 24, .sl true 0 []⟩),
  (58, ⟨.sl 138 2 32, 1, 24, .sl true 0 []⟩),
  (59, ⟨.sl 140 2 40, 1, 24, .sl true 0 []⟩),
  (60, ⟨.sl 142 4 56, 1, 24, .sl true 0 []⟩),
  (61, ⟨.sl 9 1 16, 1, 24, .sl true 0 []⟩),
  (63, ⟨.st [(0, 9, 1), (1, 3, 1), (2, 53, 1), (3, 55, 3), (6, 56, 1), (7, 57, 1), (8, 58, 1), (9, 22, 1), (10, 59, 1), (11, 59, 1), (12, 60, 1), (13, 61, 1), (14, 9, 1), (15, 9, 1)], 16, 296, .agg [.str .empty, .int .i64 0, .sl true 0 [], .int .i64 0, .int .i64 0, .int .i64 0, .sl true 0 [], .sl true 0 [], .sl true 0 [], .sl true 0 [], .sl true 0 [], .sl true 0 [], .sl true 0 [], .sl true 0 [], .str .empty, .str .empty]⟩),
  (64, ⟨.sl 144 3 40, 1, 24, .sl true 0 []⟩),
  (66, ⟨.st [(0, 9, 1), (1, 53, 1), (2, 64, 1), (3, 4, 1), (4, 55, 3), (7, 3, 1), (8, 3, 1)], 9, 112, .agg [.str .empty, .sl true 0 [], .sl true 0 [], .bool false, .int .i64 0, .int .i64 0, .int .i64 0, .int .i64 0, .int .i64 0]⟩),
  (68, ⟨.st [(0, 9, 1), (1, 3, 1), (2, 9, 1), (3, 57, 1), (4, 9, 1)], 5, 80, .agg [.str .empty, .int .i64 0, .str .empty, .sl true 0 [], .str .empty]⟩),
  (70, ⟨.st [(0, 9, 1), (1, 3, 1), (2, 9, 1), (3, 9, 1)], 4, 56, .agg [.str .empty, .int .i64 0, .str .empty, .str .empty]⟩),
  (72, ⟨.st [(0, 9, 1), (1, 4, 1)], 2, 24, .agg [.str .empty, .bool false]⟩),
  (74, ⟨.st [(0, 9, 1), (1, 57, 1), (2, 3, 1)], 3, 48, .agg [.str .empty, .sl true 0 [], .int .i64 0]⟩),
  (76, ⟨.st [(0, 3, 1), (1, 63, 16), (17, 66, 9), (26, 68, 5), (31, 70, 4), (35, 72, 2), (37, 74, 3)], 40, 624, .agg [.int .i64 0, .str .empty, .int .i64 0, .sl true 0 [], .int .i64 0, .int .i64 0, .int .i64 0, .sl true 0 [], .sl true 0 [], .sl true 0 [], .sl true 0 [], .sl true 0 [], .sl true 0 [], .sl true 0 [], .sl true 0 [], .str .empty, .str .empty, .str .empty, .sl true 0 [], .sl true 0 [], .bool false, .int .i64 0, .int .i64 0, .int .i64 0, .int .i64 0, .int .i64 0, .str .empty, .int .i64 0, .str .empty, .sl true 0 [], .str .empty, .str .empty, .int .i64 0, .str .empty, .str .empty, .str .empty, .bool false, .str .empty, .sl true 0 [], .int .i64 0]⟩),
  (78, ⟨.st [(0, 3, 1), (1, 3, 1), (2, 76, 40)], 42, 640, .agg [.int .i64 0, .int .i64 0, .int .i64 0, .str .empty, .int .i64 0, .sl true 0 [], .int .i64 0, .int .i64 0, .int .i64 0, .sl true 0 [], .sl true 0 [], .sl true 0 [], .sl true 0 [], .sl true 0 [], .sl true 0 [], .sl true 0 [], .sl true 0 [], .str .empty, .str .empty, .str .empty, .sl true 0 [], .sl true 0 [], .bool false, .int .i64 0, .int .i64 0, .int .i64 0, .int .i64 0, .int .i64 0, .str .empty, .int .i64 0, .str .empty, .sl true 0 [], .str .empty, .str .empty, .int .i64 0, .str .empty, .str .empty, .str .empty, .bool false, .str .empty, .sl true 0 [], .int .i64 0]⟩),
  (81, ⟨.ptr 86, 1, 8, .nilp⟩),
  (84, ⟨.sl 4 1 1, 1, 24, .sl true 0 []⟩),
  (86, ⟨.st [(0, 22, 1), (1, 84, 1)], 2, 48, .agg [.sl true 0 [], .sl true 0 []]⟩),
  (89, ⟨.st [(0, 3, 1), (1, 4, 1)], 2, 16, .agg [.int .i64 0, .bool false]⟩),
  (90, ⟨.arr 7 89 2, 14, 112, .agg [.int .i64 0, .bool false, .int .i64 0, .bool false, .int .i64 0, .bool false, .int .i64 0, .bool false, .int .i64 0, .bool false, .int .i64 0, .bool false, .int .i64 0, .bool false]⟩),
  (92, ⟨.st [(0, 90, 14), (14, 4, 1)], 15, 120, .agg [.int .i64 0, .bool false, .int .i64 0, .bool false, .int .i64 0, .bool false, .int .i64 0, .bool false, .int .i64 0, .bool false, .int .i64 0, .bool false, .int .i64 0, .bool false, .bool false]⟩),
  (95, ⟨.st [(0, 9, 1), (1, 9, 1)], 2, 32, .agg [.str .empty, .str .empty]⟩),
  (102, ⟨.st [(0, 38, 5), (5, 3, 1), (6, 3, 1)], 7, 88, .agg [.str .empty, .str .empty, .int .i64 0, .int .i64 0, .sl true 0 [], .int .i64 0, .int .i64 0]⟩),
  (104, ⟨.int .u64, 1, 8, .int .u64 0⟩),
  (105, ⟨.ptr 89, 1, 8, .nilp⟩),
  (109, ⟨.func, 1, 8, .nilf⟩),
  (111, ⟨.st [(0, 3, 1), (1, 109, 1)], 2, 16, .agg [.int .i64 0, .nilf]⟩),
  (115, ⟨.func, 1, 8, .nilf⟩),
  (132, ⟨.st [(0, 9, 1), (1, 9, 1)], 2, 32, .agg [.str .empty, .str .empty]⟩),
  (134, ⟨.st [(0, 9, 1), (1, 9, 1), (2, 4, 1), (3, 3, 1)], 4, 48, .agg [.str .empty, .str .empty, .bool false, .int .i64 0]⟩),
  (136, ⟨.st [(0, 9, 1), (1, 3, 1), (2, 61, 1)], 3, 48, .agg [.str .empty, .int .i64 0, .sl true 0 []]⟩),
  (138, ⟨.st [(0, 57, 1), (1, 3, 1)], 2, 32, .agg [.sl true 0 [], .int .i64 0]⟩),
  (140, ⟨.st [(0, 57, 1), (1, 9, 1)], 2, 40, .agg [.sl true 0 [], .str .empty]⟩),
  (142, ⟨.st [(0, 9, 1), (1, 3, 1), (2, 3, 1), (3, 57, 1)], 4, 56, .agg [.str .empty, .int .i64 0, .int .i64 0, .sl true 0 []]⟩),
  (144, ⟨.st [(0, 9, 1), (1, 9, 1), (2, 3, 1)], 3, 40, .agg [.str .empty, .str .empty, .int .i64 0]⟩)]
def ty : Nat → Option TI := tabOf tab
theorem tyOk : TyOk Try.prog ty := tyOk_of_tab _ _ (by kernel_rfl)
theorem mixed : Try.prog.follows .mixedOrders = true := by kernel_rfl
theorem ty_3 : ty 3 = some ⟨.int .i64, 1, 8, .int .i64 0⟩ := by kernel_rfl
theorem ty_4 : ty 4 = some ⟨.bool, 1, 1, .bool false⟩ := by kernel_rfl
theorem ty_9 : ty 9 = some ⟨.str, 1, 16, .str .empty⟩ := by kernel_rfl
theorem ty_22 : ty 22 = some ⟨.sl 3 1 8, 1, 24, .sl true 0 []⟩ := by kernel_rfl
theorem ty_24 : ty 24 = some ⟨.sl 78 42 640, 1, 24, .sl true 0 []⟩ := by kernel_rfl
theorem ty_27 : ty 27 = some ⟨.ptr 92, 1, 8, .nilp⟩ := by kernel_rfl
theorem ty_29 : ty 29 = some ⟨.int .i64, 1, 8, .int .i64 0⟩ := by kernel_rfl
theorem ty_36 : ty 36 = some ⟨.sl 95 2 32, 1, 24, .sl true 0 []⟩ := by kernel_rfl
theorem ty_38 : ty 38 = some ⟨.st [(0, 9, 1), (1, 9, 1), (2, 3, 1), (3, 3, 1), (4, 36, 1)], 5, 72, .agg [.str .empty, .str .empty, .int .i64 0, .int .i64 0, .sl true 0 []]⟩ := by kernel_rfl
theorem ty_39 : ty 39 = some ⟨.ptr 102, 1, 8, .nilp⟩ := by kernel_rfl
theorem ty_47 : ty 47 = some ⟨.sl 49 3 24, 1, 24, .sl true 0 []⟩ := by kernel_rfl
theorem ty_49 : ty 49 = some ⟨.st [(0, 3, 1), (1, 3, 1), (2, 3, 1)], 3, 24, .agg [.int .i64 0, .int .i64 0, .int .i64 0]⟩ := by kernel_rfl
theorem ty_53 : ty 53 = some ⟨.sl 132 2 32, 1, 24, .sl true 0 []⟩ := by kernel_rfl
theorem ty_55 : ty 55 = some ⟨.st [(0, 3, 1), (1, 3, 1), (2, 3, 1)], 3, 24, .agg [.int .i64 0, .int .i64 0, .int .i64 0]⟩ := by kernel_rfl
theorem ty_56 : ty 56 = some ⟨.sl 134 4 48, 1, 24, .sl true 0 []⟩ := by kernel_rfl
theorem ty_57 : ty 57 = some ⟨.sl 136 3 48, 1, 24, .sl true 0 []⟩ := by kernel_rfl
theorem ty_58 : ty 58 = some ⟨.sl 138 2 32, 1, 24, .sl true 0 []⟩ := by kernel_rfl
theorem ty_59 : ty 59 = some ⟨.sl 140 2 40, 1, 24, .sl true 0 []⟩ := by kernel_rfl
theorem ty_60 : ty 60 = some ⟨.sl 142 4 56, 1, 24, .sl true 0 []⟩ := by kernel_rfl
theorem ty_61 : ty 61 = some ⟨.sl 9 1 16, 1, 24, .sl true 0 []⟩ := by kernel_rfl
theorem ty_63 : ty 63 = some ⟨.st [(0, 9, 1), (1, 3, 1), (2, 53, 1), (3, 55, 3), (6, 56, 1), (7, 57, 1), (8, 58, 1), (9, 22, 1), (10, 59, 1), (11, 59, 1), (12, 60, 1), (13, 61, 1), (14, 9, 1), (15, 9, 1)], 16, 296, .agg [.str .empty, .int .i64 0, .sl true 0 [], .int .i64 0, .int .i64 0, .int .i64 0, .sl true 0 [], .sl true 0 [], .sl true 0 [], .sl true 0 [], .sl true 0 [], .sl true 0 [], .sl true 0 [], .sl true 0 [], .str .empty, .str .empty]⟩ := by kernel_rfl
theorem ty_64 : ty 64 = some ⟨.sl 144 3 40, 1, 24, .sl true 0 []⟩ := by kernel_rfl
theorem ty_66 : ty 66 = some ⟨.st [(0, 9, 1), (1, 53, 1), (2, 64, 1), (3, 4, 1), (4, 55, 3), (7, 3, 1), (8, 3, 1)], 9, 112, .agg [.str .empty, .sl true 0 [], .sl true 0 [], .bool false, .int .i64 0, .int .i64 0, .int .i64 0, .int .i64 0, .int .i64 0]⟩ := by kernel_rfl
theorem ty_68 : ty 68 = some ⟨.st [(0, 9, 1), (1, 3, 1), (2, 9, 1), (3, 57, 1), (4, 9, 1)], 5, 80, .agg [.str .empty, .int .i64 0, .str .empty, .sl true 0 [], .str .empty]⟩ := by kernel_rfl
theorem ty_70 : ty 70 = some ⟨.st [(0, 9, 1), (1, 3, 1), (2, 9, 1), (3, 9, 1)], 4, 56, .agg [.str .empty, .int .i64 0, .str .empty, .str .empty]⟩ := by kernel_rfl
theorem ty_72 : ty 72 = some ⟨.st [(0, 9, 1), (1, 4, 1)], 2, 24, .agg [.str .empty, .bool false]⟩ := by kernel_rfl
theorem ty_74 : ty 74 = some ⟨.st [(0, 9, 1), (1, 57, 1), (2, 3, 1)], 3, 48, .agg [.str .empty, .sl true 0 [], .int .i64 0]⟩ := by kernel_rfl
theorem ty_76 : ty 76 = some ⟨.st [(0, 3, 1), (1, 63, 16), (17, 66, 9), (26, 68, 5), (31, 70, 4), (35, 72, 2), (37, 74, 3)], 40, 624, .agg [.int .i64 0, .str .empty, .int .i64 0, .sl true 0 [], .int .i64 0, .int .i64 0, .int .i64 0, .sl true 0 [], .sl true 0 [], .sl true 0 [], .sl true 0 [], .sl true 0 [], .sl true 0 [], .sl true 0 [], .sl true 0 [], .str .empty, .str .empty, .str .empty, .sl true 0 [], .sl true 0 [], .bool false, .int .i64 0, .int .i64 0, .int .i64 0, .int .i64 0, .int .i64 0, .str .empty, .int .i64 0, .str .empty, .sl true 0 [], .str .empty, .str .empty, .int .i64 0, .str .empty, .str .empty, .str .empty, .bool false, .str .empty, .sl true 0 [], .int .i64 0]⟩ := by kernel_rfl
theorem ty_78 : ty 78 = some ⟨.st [(0, 3, 1), (1, 3, 1), (2, 76, 40)], 42, 640, .agg [.int .i64 0, .int .i64 0, .int .i64 0, .str .empty, .int .i64 0, .sl true 0 [], .int .i64 0, .int .i64 0, .int .i64 0, .sl true 0 [], .sl true 0 [], .sl true 0 [], .sl true 0 [], .sl true 0 [], .sl true 0 [], .sl true 0 [], .sl true 0 [], .str .empty, .str .empty, .str .empty, .sl true 0 [], .sl true 0 [], .bool false, .int .i64 0, .int .i64 0, .int .i64 0, .int .i64 0, .int .i64 0, .str .empty, .int .i64 0, .str .empty, .sl true 0 [], .str .empty, .str .empty, .int .i64 0, .str .empty, .str .empty, .str .empty, .bool false, .str .empty, .sl true 0 [], .int .i64 0]⟩ := by kernel_rfl
theorem ty_81 : ty 81 = some ⟨.ptr 86, 1, 8, .nilp⟩ := by kernel_rfl
theorem ty_84 : ty 84 = some ⟨.sl 4 1 1, 1, 24, .sl true 0 []⟩ := by kernel_rfl
theorem ty_86 : ty 86 = some ⟨.st [(0, 22, 1), (1, 84, 1)], 2, 48, .agg [.sl true 0 [], .sl true 0 []]⟩ := by kernel_rfl
theorem ty_89 : ty 89 = some ⟨.st [(0, 3, 1), (1, 4, 1)], 2, 16, .agg [.int .i64 0, .bool false]⟩ := by kernel_rfl
theorem ty_90 : ty 90 = some ⟨.arr 7 89 2, 14, 112, .agg [.int .i64 0, .bool false, .int .i64 0, .bool false, .int .i64 0, .bool false, .int .i64 0, .bool false, .int .i64 0, .bool false, .int .i64 0, .bool false, .int .i64 0, .bool false]⟩ := by kernel_rfl
theorem ty_92 : ty 92 = some ⟨.st [(0, 90, 14), (14, 4, 1)], 15, 120, .agg [.int .i64 0, .bool false, .int .i64 0, .bool false, .int .i64 0, .bool false, .int .i64 0, .bool false, .int .i64 0, .bool false, .int .i64 0, .bool false, .int .i64 0, .bool false, .bool false]⟩ := by kernel_rfl
theorem ty_95 : ty 95 = some ⟨.st [(0, 9, 1), (1, 9, 1)], 2, 32, .agg [.str .empty, .str .empty]⟩ := by kernel_rfl
theorem ty_102 : ty 102 = some ⟨.st [(0, 38, 5), (5, 3, 1), (6, 3, 1)], 7, 88, .agg [.str .empty, .str .empty, .int .i64 0, .int .i64 0, .sl true 0 [], .int .i64 0, .int .i64 0]⟩ := by kernel_rfl
theorem ty_104 : ty 104 = some ⟨.int .u64, 1, 8, .int .u64 0⟩ := by kernel_rfl
theorem ty_105 : ty 105 = some ⟨.ptr 89, 1, 8, .nilp⟩ := by kernel_rfl
theorem ty_109 : ty 109 = some ⟨.func, 1, 8, .nilf⟩ := by kernel_rfl
theorem ty_111 : ty 111 = some ⟨.st [(0, 3, 1), (1, 109, 1)], 2, 16, .agg [.int .i64 0, .nilf]⟩ := by kernel_rfl
theorem ty_115 : ty 115 = some ⟨.func, 1, 8, .nilf⟩ := by kernel_rfl
theorem ty_132 : ty 132 = some ⟨.st [(0, 9, 1), (1, 9, 1)], 2, 32, .agg [.str .empty, .str .empty]⟩ := by kernel_rfl
theorem ty_134 : ty 134 = some ⟨.st [(0, 9, 1), (1, 9, 1), (2, 4, 1), (3, 3, 1)], 4, 48, .agg [.str .empty, .str .empty, .bool false, .int .i64 0]⟩ := by kernel_rfl
theorem ty_136 : ty 136 = some ⟨.st [(0, 9, 1), (1, 3, 1), (2, 61, 1)], 3, 48, .agg [.str .empty, .int .i64 0, .sl true 0 []]⟩ := by kernel_rfl
theorem ty_138 : ty 138 = some ⟨.st [(0, 57, 1), (1, 3, 1)], 2, 32, .agg [.sl true 0 [], .int .i64 0]⟩ := by kernel_rfl
theorem ty_140 : ty 140 = some ⟨.st [(0, 57, 1), (1, 9, 1)], 2, 40, .agg [.sl true 0 [], .str .empty]⟩ := by kernel_rfl
theorem ty_142 : ty 142 = some ⟨.st [(0, 9, 1), (1, 3, 1), (2, 3, 1), (3, 57, 1)], 4, 56, .agg [.str .empty, .int .i64 0, .int .i64 0, .sl true 0 []]⟩ := by kernel_rfl
theorem ty_144 : ty 144 = some ⟨.st [(0, 9, 1), (1, 9, 1), (2, 3, 1)], 3, 40, .agg [.str .empty, .str .empty, .int .i64 0]⟩ := by kernel_rfl

/-! 17: stevedore/watch.New (1 parameters) -/
def keep17 : List (Nat × List Nat) := [(7, [2]), (6, [0, 3, 7]), (5, [0, 3, 7]), (4, [0, 3, 4, 7]), (3, [0, 3, 7, 8]), (2, [0, 3, 7]), (1, [0, 3]), (0, [0])]
def loops17 : List (Nat × List Nat × List (Nat × Nat × Nat)) := [(3, ([0, 3, 7], []))]
noncomputable def calls17 : List (Nat × Spec) := []
def news17 : List (Nat × Nat) := []
noncomputable def E17 : Env := { ty := ty, call := callOf calls17, news := newsOf news17, keep := keepOf keep17, loops := loopsOf loops17 }
theorem ty17 : E17.ty = ty := rfl
theorem call17 (f : Nat) (args : List V) (S : St) : E17.call f args S = callOf calls17 f args S := rfl
theorem nw17 (f : Nat) : E17.news f = newsOf news17 f := rfl
theorem kp17 (f : Nat) : E17.keep f = keepOf keep17 f := rfl
theorem lp17 (f : Nat) : E17.loops f = loopsOf loops17 f := rfl
noncomputable def v17 : Spec := fnSpec E17 false Try.f17
theorem ok17 : SoundAt Try.prog 17 v17 := soundAt_of mixed tyOk rfl (by intro p hp; simp [calls17] at hp) (f := 17) (fn := Try.f17) (by kernel_rfl) (by kernel_rfl) (by kernel_rfl) _

/-! 16: stevedore/stevedorebase.Among (2 parameters) -/
def keep16 : List (Nat × List Nat) := [(1, [4]), (0, [0, 1])]
def loops16 : List (Nat × List Nat × List (Nat × Nat × Nat)) := []
noncomputable def calls16 : List (Nat × Spec) := []
def news16 : List (Nat × Nat) := []
noncomputable def E16 : Env := { ty := ty, call := callOf calls16, news := newsOf news16, keep := keepOf keep16, loops := loopsOf loops16 }
theorem ty16 : E16.ty = ty := rfl
theorem call16 (f : Nat) (args : List V) (S : St) : E16.call f args S = callOf calls16 f args S := rfl
theorem nw16 (f : Nat) : E16.news f = newsOf news16 f := rfl
theorem kp16 (f : Nat) : E16.keep f = keepOf keep16 f := rfl
theorem lp16 (f : Nat) : E16.loops f = loopsOf loops16 f := rfl
noncomputable def v16 : Spec := fnSpec E16 true Try.f16
theorem ok16 : SoundAt Try.prog 16 v16 := soundAt_of mixed tyOk rfl (by intro p hp; simp [calls16] at hp) (f := 16) (fn := Try.f16) (by kernel_rfl) (by kernel_rfl) (by kernel_rfl) _

/-! 15: stevedore/stevedorelaw13.logged (1 parameters) -/
def keep15 : List (Nat × List Nat) := [(6, [2]), (4, [0, 3, 4]), (5, [0, 3, 4]), (3, [0, 3, 4, 9]), (2, [0, 3, 4]), (1, [0, 3]), (0, [0])]
def loops15 : List (Nat × List Nat × List (Nat × Nat × Nat)) := [(3, ([0, 3, 4], [(3, (78, 42))]))]
noncomputable def calls15 : List (Nat × Spec) := [(16, v16)]
def news15 : List (Nat × Nat) := []
noncomputable def E15 : Env := { ty := ty, call := callOf calls15, news := newsOf news15, keep := keepOf keep15, loops := loopsOf loops15 }
theorem ty15 : E15.ty = ty := rfl
theorem call15 (f : Nat) (args : List V) (S : St) : E15.call f args S = callOf calls15 f args S := rfl
theorem nw15 (f : Nat) : E15.news f = newsOf news15 f := rfl
theorem kp15 (f : Nat) : E15.keep f = keepOf keep15 f := rfl
theorem lp15 (f : Nat) : E15.loops f = loopsOf loops15 f := rfl
noncomputable def v15 : Spec := fnSpec E15 true Try.f15
theorem ok15 : SoundAt Try.prog 15 v15 := soundAt_of mixed tyOk rfl (by intro p hp; simp only [calls15, List.mem_cons, List.not_mem_nil, or_false] at hp; rcases hp with rfl <;> first | exact ok16) (f := 15) (fn := Try.f15) (by kernel_rfl) (by kernel_rfl) (by kernel_rfl) _

/-! 41: (*stevedore/watch.Watcher).cursor (2 parameters) -/
def keep41 : List (Nat × List Nat) := [(5, [4, 5]), (2, [4, 5]), (4, [4, 5]), (3, [0, 1, 16]), (1, [0, 1, 6]), (0, [0, 1])]
def loops41 : List (Nat × List Nat × List (Nat × Nat × Nat)) := []
noncomputable def calls41 : List (Nat × Spec) := []
def news41 : List (Nat × Nat) := []
noncomputable def E41 : Env := { ty := ty, call := callOf calls41, news := newsOf news41, keep := keepOf keep41, loops := loopsOf loops41 }
theorem ty41 : E41.ty = ty := rfl
theorem call41 (f : Nat) (args : List V) (S : St) : E41.call f args S = callOf calls41 f args S := rfl
theorem nw41 (f : Nat) : E41.news f = newsOf news41 f := rfl
theorem kp41 (f : Nat) : E41.keep f = keepOf keep41 f := rfl
theorem lp41 (f : Nat) : E41.loops f = loopsOf loops41 f := rfl
noncomputable def v41 : Spec := fnSpec E41 true Try.f41
theorem ok41 : SoundAt Try.prog 41 v41 := soundAt_of mixed tyOk rfl (by intro p hp; simp [calls41] at hp) (f := 41) (fn := Try.f41) (by kernel_rfl) (by kernel_rfl) (by kernel_rfl) _

/-! 49: (*stevedore/watch.cursor).coming$1 (1 parameters) -/
def keep49 : List (Nat × List Nat) := [(1, [4]), (0, [1, 2, 3])]
def loops49 : List (Nat × List Nat × List (Nat × Nat × Nat)) := []
noncomputable def calls49 : List (Nat × Spec) := []
def news49 : List (Nat × Nat) := []
noncomputable def E49 : Env := { ty := ty, call := callOf calls49, news := newsOf news49, keep := keepOf keep49, loops := loopsOf loops49 }
theorem ty49 : E49.ty = ty := rfl
theorem call49 (f : Nat) (args : List V) (S : St) : E49.call f args S = callOf calls49 f args S := rfl
theorem nw49 (f : Nat) : E49.news f = newsOf news49 f := rfl
theorem kp49 (f : Nat) : E49.keep f = keepOf keep49 f := rfl
theorem lp49 (f : Nat) : E49.loops f = loopsOf loops49 f := rfl
noncomputable def v49 : Spec := fnSpec E49 true Try.f49
theorem ok49 : SoundAt Try.prog 49 v49 := soundAt_of mixed tyOk rfl (by intro p hp; simp [calls49] at hp) (f := 49) (fn := Try.f49) (by kernel_rfl) (by kernel_rfl) (by kernel_rfl) _

/-! 50: (*stevedore/task.Task).wait (1 parameters) -/
def keep50 : List (Nat × List Nat) := [(4, [2]), (3, [2]), (2, [14]), (1, [0]), (0, [0])]
def loops50 : List (Nat × List Nat × List (Nat × Nat × Nat)) := []
noncomputable def calls50 : List (Nat × Spec) := []
def news50 : List (Nat × Nat) := []
noncomputable def E50 : Env := { ty := ty, call := callOf calls50, news := newsOf news50, keep := keepOf keep50, loops := loopsOf loops50 }
theorem ty50 : E50.ty = ty := rfl
theorem call50 (f : Nat) (args : List V) (S : St) : E50.call f args S = callOf calls50 f args S := rfl
theorem nw50 (f : Nat) : E50.news f = newsOf news50 f := rfl
theorem kp50 (f : Nat) : E50.keep f = keepOf keep50 f := rfl
theorem lp50 (f : Nat) : E50.loops f = loopsOf loops50 f := rfl
noncomputable def v50 : Spec := fnSpec E50 true Try.f50
theorem ok50 : SoundAt Try.prog 50 v50 := soundAt_of mixed tyOk rfl (by intro p hp; simp [calls50] at hp) (f := 50) (fn := Try.f50) (by kernel_rfl) (by kernel_rfl) (by kernel_rfl) _

/-! 51: stevedore/task.table$1 (1 parameters) -/
def keep51 : List (Nat × List Nat) := [(1, [2]), (0, [])]
def loops51 : List (Nat × List Nat × List (Nat × Nat × Nat)) := []
noncomputable def calls51 : List (Nat × Spec) := []
def news51 : List (Nat × Nat) := []
noncomputable def E51 : Env := { ty := ty, call := callOf calls51, news := newsOf news51, keep := keepOf keep51, loops := loopsOf loops51 }
theorem ty51 : E51.ty = ty := rfl
theorem call51 (f : Nat) (args : List V) (S : St) : E51.call f args S = callOf calls51 f args S := rfl
theorem nw51 (f : Nat) : E51.news f = newsOf news51 f := rfl
theorem kp51 (f : Nat) : E51.keep f = keepOf keep51 f := rfl
theorem lp51 (f : Nat) : E51.loops f = loopsOf loops51 f := rfl
noncomputable def v51 : Spec := fnSpec E51 true Try.f51
theorem ok51 : SoundAt Try.prog 51 v51 := soundAt_of mixed tyOk rfl (by intro p hp; simp [calls51] at hp) (f := 51) (fn := Try.f51) (by kernel_rfl) (by kernel_rfl) (by kernel_rfl) _

/-! 48: stevedore/watch.some[stevedore/api.Change] (3 parameters) -/
def keep48 : List (Nat × List Nat) := [(8, [6]), (7, [1, 2, 7, 10, 11, 12]), (6, [1, 2, 7, 10, 11, 12]), (5, [1, 2, 7, 9, 10, 11, 12, 24]), (4, [1, 2, 7, 9, 10, 11, 12]), (3, [1, 2, 7, 10, 11, 12, 13]), (2, [1, 2, 7, 10, 11, 12]), (1, [0, 1, 2, 7]), (0, [0, 1, 2])]
def loops48 : List (Nat × List Nat × List (Nat × Nat × Nat)) := [(3, ([1, 2, 7, 10, 11, 12], [(7, (78, 42))]))]
noncomputable def calls48 : List (Nat × Spec) := [(49, v49), (50, v50), (51, v51)]
def news48 : List (Nat × Nat) := []
noncomputable def E48 : Env := { ty := ty, call := callOf calls48, news := newsOf news48, keep := keepOf keep48, loops := loopsOf loops48 }
theorem ty48 : E48.ty = ty := rfl
theorem call48 (f : Nat) (args : List V) (S : St) : E48.call f args S = callOf calls48 f args S := rfl
theorem nw48 (f : Nat) : E48.news f = newsOf news48 f := rfl
theorem kp48 (f : Nat) : E48.keep f = keepOf keep48 f := rfl
theorem lp48 (f : Nat) : E48.loops f = loopsOf loops48 f := rfl
noncomputable def v48 : Spec := fnSpec E48 true Try.f48
theorem ok48 : SoundAt Try.prog 48 v48 := soundAt_of mixed tyOk rfl (by intro p hp; simp only [calls48, List.mem_cons, List.not_mem_nil, or_false] at hp; rcases hp with rfl | rfl | rfl <;> first | exact ok49 | exact ok50 | exact ok51) (f := 48) (fn := Try.f48) (by kernel_rfl) (by kernel_rfl) (by kernel_rfl) _

/-! 42: (*stevedore/watch.cursor).coming (4 parameters) -/
def keep42 : List (Nat × List Nat) := [(1, [8]), (0, [2, 3, 4, 5])]
def loops42 : List (Nat × List Nat × List (Nat × Nat × Nat)) := []
noncomputable def calls42 : List (Nat × Spec) := [(49, v49), (48, v48)]
def news42 : List (Nat × Nat) := []
noncomputable def E42 : Env := { ty := ty, call := callOf calls42, news := newsOf news42, keep := keepOf keep42, loops := loopsOf loops42 }
theorem ty42 : E42.ty = ty := rfl
theorem call42 (f : Nat) (args : List V) (S : St) : E42.call f args S = callOf calls42 f args S := rfl
theorem nw42 (f : Nat) : E42.news f = newsOf news42 f := rfl
theorem kp42 (f : Nat) : E42.keep f = keepOf keep42 f := rfl
theorem lp42 (f : Nat) : E42.loops f = loopsOf loops42 f := rfl
noncomputable def v42 : Spec := fnSpec E42 true Try.f42
theorem ok42 : SoundAt Try.prog 42 v42 := soundAt_of mixed tyOk rfl (by intro p hp; simp only [calls42, List.mem_cons, List.not_mem_nil, or_false] at hp; rcases hp with rfl | rfl <;> first | exact ok49 | exact ok48) (f := 42) (fn := Try.f42) (by kernel_rfl) (by kernel_rfl) (by kernel_rfl) _

/-! 18: (*stevedore/watch.Watcher).Next (4 parameters) -/
def keep18 : List (Nat × List Nat) := [(11, [8, 9]), (10, [11, 12]), (9, [10, 11, 12, 38]), (8, [10, 11, 12]), (3, [8, 9]), (5, [8, 9]), (7, [8, 9]), (6, [1, 2, 3, 10, 11, 26]), (4, [1, 2, 3, 10, 11, 23]), (2, [1, 2, 3, 10, 11, 19]), (1, [1, 2, 3, 10, 11]), (0, [0, 1, 2, 3])]
def loops18 : List (Nat × List Nat × List (Nat × Nat × Nat)) := []
noncomputable def calls18 : List (Nat × Spec) := [(41, v41), (42, v42)]
def news18 : List (Nat × Nat) := []
noncomputable def E18 : Env := { ty := ty, call := callOf calls18, news := newsOf news18, keep := keepOf keep18, loops := loopsOf loops18 }
theorem ty18 : E18.ty = ty := rfl
theorem call18 (f : Nat) (args : List V) (S : St) : E18.call f args S = callOf calls18 f args S := rfl
theorem nw18 (f : Nat) : E18.news f = newsOf news18 f := rfl
theorem kp18 (f : Nat) : E18.keep f = keepOf keep18 f := rfl
theorem lp18 (f : Nat) : E18.loops f = loopsOf loops18 f := rfl
noncomputable def v18 : Spec := fnSpec E18 true Try.f18
theorem ok18 : SoundAt Try.prog 18 v18 := soundAt_of mixed tyOk rfl (by intro p hp; simp only [calls18, List.mem_cons, List.not_mem_nil, or_false] at hp; rcases hp with rfl | rfl <;> first | exact ok41 | exact ok42) (f := 18) (fn := Try.f18) (by kernel_rfl) (by kernel_rfl) (by kernel_rfl) _

/-! 19: (*stevedore/watch.Watcher).Behind (3 parameters) -/
def keep19 : List (Nat × List Nat) := [(4, [6, 7]), (3, [6, 7]), (2, [1, 2, 8, 9, 17]), (1, [1, 2, 8, 9]), (0, [0, 1, 2])]
def loops19 : List (Nat × List Nat × List (Nat × Nat × Nat)) := []
noncomputable def calls19 : List (Nat × Spec) := [(41, v41), (42, v42)]
def news19 : List (Nat × Nat) := []
noncomputable def E19 : Env := { ty := ty, call := callOf calls19, news := newsOf news19, keep := keepOf keep19, loops := loopsOf loops19 }
theorem ty19 : E19.ty = ty := rfl
theorem call19 (f : Nat) (args : List V) (S : St) : E19.call f args S = callOf calls19 f args S := rfl
theorem nw19 (f : Nat) : E19.news f = newsOf news19 f := rfl
theorem kp19 (f : Nat) : E19.keep f = keepOf keep19 f := rfl
theorem lp19 (f : Nat) : E19.loops f = loopsOf loops19 f := rfl
noncomputable def v19 : Spec := fnSpec E19 true Try.f19
theorem ok19 : SoundAt Try.prog 19 v19 := soundAt_of mixed tyOk rfl (by intro p hp; simp only [calls19, List.mem_cons, List.not_mem_nil, or_false] at hp; rcases hp with rfl | rfl <;> first | exact ok41 | exact ok42) (f := 19) (fn := Try.f19) (by kernel_rfl) (by kernel_rfl) (by kernel_rfl) _

/-! 36: (*stevedore/watch.Watcher).Seen (2 parameters) -/
def keep36 : List (Nat × List Nat) := [(4, [4, 5]), (3, [4, 5]), (2, [6, 7, 15]), (1, [6, 7]), (0, [0, 1])]
def loops36 : List (Nat × List Nat × List (Nat × Nat × Nat)) := []
noncomputable def calls36 : List (Nat × Spec) := [(41, v41)]
def news36 : List (Nat × Nat) := []
noncomputable def E36 : Env := { ty := ty, call := callOf calls36, news := newsOf news36, keep := keepOf keep36, loops := loopsOf loops36 }
theorem ty36 : E36.ty = ty := rfl
theorem call36 (f : Nat) (args : List V) (S : St) : E36.call f args S = callOf calls36 f args S := rfl
theorem nw36 (f : Nat) : E36.news f = newsOf news36 f := rfl
theorem kp36 (f : Nat) : E36.keep f = keepOf keep36 f := rfl
theorem lp36 (f : Nat) : E36.loops f = loopsOf loops36 f := rfl
noncomputable def v36 : Spec := fnSpec E36 true Try.f36
theorem ok36 : SoundAt Try.prog 36 v36 := soundAt_of mixed tyOk rfl (by intro p hp; simp only [calls36, List.mem_cons, List.not_mem_nil, or_false] at hp; rcases hp with rfl <;> first | exact ok41) (f := 36) (fn := Try.f36) (by kernel_rfl) (by kernel_rfl) (by kernel_rfl) _

/-! 14: stevedore/stevedorelaw13.works (0 parameters) -/
def keep14 : List (Nat × List Nat) := [(9, [0]), (8, [3, 5, 7, 9, 10]), (7, [1, 3, 5, 7]), (6, [1, 2, 3, 5]), (5, [1, 2, 3]), (4, [1, 2]), (3, [0]), (2, [1, 13]), (1, [1]), (0, [])]
def loops14 : List (Nat × List Nat × List (Nat × Nat × Nat)) := []
noncomputable def calls14 : List (Nat × Spec) := [(17, v17), (15, v15), (18, v18), (19, v19), (36, v36)]
def news14 : List (Nat × Nat) := [(17, 1)]
noncomputable def E14 : Env := { ty := ty, call := callOf calls14, news := newsOf news14, keep := keepOf keep14, loops := loopsOf loops14 }
theorem ty14 : E14.ty = ty := rfl
theorem call14 (f : Nat) (args : List V) (S : St) : E14.call f args S = callOf calls14 f args S := rfl
theorem nw14 (f : Nat) : E14.news f = newsOf news14 f := rfl
theorem kp14 (f : Nat) : E14.keep f = keepOf keep14 f := rfl
theorem lp14 (f : Nat) : E14.loops f = loopsOf loops14 f := rfl
noncomputable def v14 : Spec := fnSpec E14 true Try.f14
theorem ok14 : SoundAt Try.prog 14 v14 := soundAt_of mixed tyOk rfl (by intro p hp; simp only [calls14, List.mem_cons, List.not_mem_nil, or_false] at hp; rcases hp with rfl | rfl | rfl | rfl | rfl <;> first | exact ok17 | exact ok15 | exact ok18 | exact ok19 | exact ok36) (f := 14) (fn := Try.f14) (by kernel_rfl) (by kernel_rfl) (by kernel_rfl) _

/-! 20: stevedore/stevedorelaw13.same (2 parameters) -/
def keep20 : List (Nat × List Nat) := [(8, [4]), (5, [0, 1, 5]), (7, [4]), (6, [0, 1, 5, 55]), (4, [0, 1, 5, 14]), (3, [0, 1, 5]), (2, [4]), (1, [0, 1, 10]), (0, [0, 1])]
def loops20 : List (Nat × List Nat × List (Nat × Nat × Nat)) := [(4, ([0, 1, 5], []))]
noncomputable def calls20 : List (Nat × Spec) := []
def news20 : List (Nat × Nat) := []
noncomputable def E20 : Env := { ty := ty, call := callOf calls20, news := newsOf news20, keep := keepOf keep20, loops := loopsOf loops20 }
theorem ty20 : E20.ty = ty := rfl
theorem call20 (f : Nat) (args : List V) (S : St) : E20.call f args S = callOf calls20 f args S := rfl
theorem nw20 (f : Nat) : E20.news f = newsOf news20 f := rfl
theorem kp20 (f : Nat) : E20.keep f = keepOf keep20 f := rfl
theorem lp20 (f : Nat) : E20.loops f = loopsOf loops20 f := rfl
noncomputable def v20 : Spec := fnSpec E20 true Try.f20
theorem ok20 : SoundAt Try.prog 20 v20 := soundAt_of mixed tyOk rfl (by intro p hp; simp [calls20] at hp) (f := 20) (fn := Try.f20) (by kernel_rfl) (by kernel_rfl) (by kernel_rfl) _

/-! 3: stevedore/stevedorelaw13.WatchOrder (3 parameters) -/
def keep3 : List (Nat × List Nat) := [(18, [6]), (17, [9, 13, 14, 15, 16]), (16, [1, 7, 8, 9, 13, 14]), (11, [1, 2, 7, 8, 9, 10]), (15, [1, 2, 7, 8, 9, 10]), (14, [6]), (13, [1, 2, 7, 8, 9, 10, 11, 57]), (12, [1, 2, 7, 8, 9, 10, 11, 12]), (10, [1, 2, 7, 8, 9, 10, 31]), (9, [1, 2, 7, 8, 9, 10]), (8, [1, 2, 7, 8, 9]), (7, [6]), (6, [1, 2, 7, 8, 26]), (5, [1, 2, 7, 8]), (4, [1, 2, 7]), (3, [1, 2, 7]), (2, [6]), (1, [0, 1, 2, 18]), (0, [0, 1, 2])]
def loops3 : List (Nat × List Nat × List (Nat × Nat × Nat)) := [(10, ([1, 2, 7, 8, 9, 10], [(9, (78, 42))]))]
noncomputable def calls3 : List (Nat × Spec) := [(14, v14), (15, v15), (16, v16), (17, v17), (18, v18), (19, v19), (20, v20)]
def news3 : List (Nat × Nat) := [(17, 1)]
noncomputable def E3 : Env := { ty := ty, call := callOf calls3, news := newsOf news3, keep := keepOf keep3, loops := loopsOf loops3 }
theorem ty3 : E3.ty = ty := rfl
theorem call3 (f : Nat) (args : List V) (S : St) : E3.call f args S = callOf calls3 f args S := rfl
theorem nw3 (f : Nat) : E3.news f = newsOf news3 f := rfl
theorem kp3 (f : Nat) : E3.keep f = keepOf keep3 f := rfl
theorem lp3 (f : Nat) : E3.loops f = loopsOf loops3 f := rfl
noncomputable def v3 : Spec := fnSpec E3 true Try.f3
theorem ok3 : SoundAt Try.prog 3 v3 := soundAt_of mixed tyOk rfl (by intro p hp; simp only [calls3, List.mem_cons, List.not_mem_nil, or_false] at hp; rcases hp with rfl | rfl | rfl | rfl | rfl | rfl | rfl <;> first | exact ok14 | exact ok15 | exact ok16 | exact ok17 | exact ok18 | exact ok19 | exact ok20) (f := 3) (fn := Try.f3) (by kernel_rfl) (by kernel_rfl) (by kernel_rfl) _

/-! 4: stevedore/stevedorelaw13.WatchBehind (3 parameters) -/
def keep4 : List (Nat × List Nat) := [(16, [6]), (10, [1, 2, 7, 8, 9]), (15, [6]), (14, [1, 2, 7, 8, 9, 83]), (13, [1, 2, 7, 8, 9, 10, 12, 13, 14, 15]), (12, [1, 2, 7, 8, 9, 10, 12, 13]), (11, [1, 2, 7, 8, 9, 10]), (9, [1, 2, 7, 8, 9, 29]), (8, [1, 2, 7, 8, 9]), (7, [6]), (6, [1, 2, 7, 8, 25]), (5, [1, 2, 7, 8]), (4, [1, 2, 7]), (3, [1, 2, 7]), (2, [6]), (1, [0, 1, 2, 17]), (0, [0, 1, 2])]
def loops4 : List (Nat × List Nat × List (Nat × Nat × Nat)) := [(9, ([1, 2, 7, 8, 9], []))]
noncomputable def calls4 : List (Nat × Spec) := [(14, v14), (15, v15), (16, v16), (17, v17), (19, v19), (18, v18)]
def news4 : List (Nat × Nat) := [(17, 1)]
noncomputable def E4 : Env := { ty := ty, call := callOf calls4, news := newsOf news4, keep := keepOf keep4, loops := loopsOf loops4 }
theorem ty4 : E4.ty = ty := rfl
theorem call4 (f : Nat) (args : List V) (S : St) : E4.call f args S = callOf calls4 f args S := rfl
theorem nw4 (f : Nat) : E4.news f = newsOf news4 f := rfl
theorem kp4 (f : Nat) : E4.keep f = keepOf keep4 f := rfl
theorem lp4 (f : Nat) : E4.loops f = loopsOf loops4 f := rfl
noncomputable def v4 : Spec := fnSpec E4 true Try.f4
theorem ok4 : SoundAt Try.prog 4 v4 := soundAt_of mixed tyOk rfl (by intro p hp; simp only [calls4, List.mem_cons, List.not_mem_nil, or_false] at hp; rcases hp with rfl | rfl | rfl | rfl | rfl | rfl <;> first | exact ok14 | exact ok15 | exact ok16 | exact ok17 | exact ok19 | exact ok18) (f := 4) (fn := Try.f4) (by kernel_rfl) (by kernel_rfl) (by kernel_rfl) _

/-! 43: slices.Clone[[]stevedore/api.Pick,stevedore/api.Pick] (1 parameters) -/
def keep43 : List (Nat × List Nat) := [(3, [2]), (2, [2]), (1, [0, 4]), (0, [0])]
def loops43 : List (Nat × List Nat × List (Nat × Nat × Nat)) := []
noncomputable def calls43 : List (Nat × Spec) := []
def news43 : List (Nat × Nat) := []
noncomputable def E43 : Env := { ty := ty, call := callOf calls43, news := newsOf news43, keep := keepOf keep43, loops := loopsOf loops43 }
theorem ty43 : E43.ty = ty := rfl
theorem call43 (f : Nat) (args : List V) (S : St) : E43.call f args S = callOf calls43 f args S := rfl
theorem nw43 (f : Nat) : E43.news f = newsOf news43 f := rfl
theorem kp43 (f : Nat) : E43.keep f = keepOf keep43 f := rfl
theorem lp43 (f : Nat) : E43.loops f = loopsOf loops43 f := rfl
noncomputable def v43 : Spec := fnSpec E43 true Try.f43
theorem ok43 : SoundAt Try.prog 43 v43 := soundAt_of mixed tyOk rfl (by intro p hp; simp [calls43] at hp) (f := 43) (fn := Try.f43) (by kernel_rfl) (by kernel_rfl) (by kernel_rfl) _

/-! 22: stevedore/task.New (1 parameters) -/
def keep22 : List (Nat × List Nat) := [(4, [2, 3]), (3, [1]), (2, [2, 3]), (1, [1, 11]), (0, [1])]
def loops22 : List (Nat × List Nat × List (Nat × Nat × Nat)) := []
noncomputable def calls22 : List (Nat × Spec) := [(43, v43)]
def news22 : List (Nat × Nat) := []
noncomputable def E22 : Env := { ty := ty, call := callOf calls22, news := newsOf news22, keep := keepOf keep22, loops := loopsOf loops22 }
theorem ty22 : E22.ty = ty := rfl
theorem call22 (f : Nat) (args : List V) (S : St) : E22.call f args S = callOf calls22 f args S := rfl
theorem nw22 (f : Nat) : E22.news f = newsOf news22 f := rfl
theorem kp22 (f : Nat) : E22.keep f = keepOf keep22 f := rfl
theorem lp22 (f : Nat) : E22.loops f = loopsOf loops22 f := rfl
noncomputable def v22 : Spec := fnSpec E22 false Try.f22
theorem ok22 : SoundAt Try.prog 22 v22 := soundAt_of mixed tyOk rfl (by intro p hp; simp only [calls22, List.mem_cons, List.not_mem_nil, or_false] at hp; rcases hp with rfl <;> first | exact ok43) (f := 22) (fn := Try.f22) (by kernel_rfl) (by kernel_rfl) (by kernel_rfl) _

/-! 44: (*stevedore/task.Task).is (1 parameters) -/
def keep44 : List (Nat × List Nat) := [(1, [2]), (0, [0])]
def loops44 : List (Nat × List Nat × List (Nat × Nat × Nat)) := []
noncomputable def calls44 : List (Nat × Spec) := []
def news44 : List (Nat × Nat) := []
noncomputable def E44 : Env := { ty := ty, call := callOf calls44, news := newsOf news44, keep := keepOf keep44, loops := loopsOf loops44 }
theorem ty44 : E44.ty = ty := rfl
theorem call44 (f : Nat) (args : List V) (S : St) : E44.call f args S = callOf calls44 f args S := rfl
theorem nw44 (f : Nat) : E44.news f = newsOf news44 f := rfl
theorem kp44 (f : Nat) : E44.keep f = keepOf keep44 f := rfl
theorem lp44 (f : Nat) : E44.loops f = loopsOf loops44 f := rfl
noncomputable def v44 : Spec := fnSpec E44 true Try.f44
theorem ok44 : SoundAt Try.prog 44 v44 := soundAt_of mixed tyOk rfl (by intro p hp; simp [calls44] at hp) (f := 44) (fn := Try.f44) (by kernel_rfl) (by kernel_rfl) (by kernel_rfl) _

/-! 23: (*stevedore/task.Task).Over (1 parameters) -/
def keep23 : List (Nat × List Nat) := [(1, [2]), (0, [0])]
def loops23 : List (Nat × List Nat × List (Nat × Nat × Nat)) := []
noncomputable def calls23 : List (Nat × Spec) := [(44, v44)]
def news23 : List (Nat × Nat) := []
noncomputable def E23 : Env := { ty := ty, call := callOf calls23, news := newsOf news23, keep := keepOf keep23, loops := loopsOf loops23 }
theorem ty23 : E23.ty = ty := rfl
theorem call23 (f : Nat) (args : List V) (S : St) : E23.call f args S = callOf calls23 f args S := rfl
theorem nw23 (f : Nat) : E23.news f = newsOf news23 f := rfl
theorem kp23 (f : Nat) : E23.keep f = keepOf keep23 f := rfl
theorem lp23 (f : Nat) : E23.loops f = loopsOf loops23 f := rfl
noncomputable def v23 : Spec := fnSpec E23 true Try.f23
theorem ok23 : SoundAt Try.prog 23 v23 := soundAt_of mixed tyOk rfl (by intro p hp; simp only [calls23, List.mem_cons, List.not_mem_nil, or_false] at hp; rcases hp with rfl <;> first | exact ok44) (f := 23) (fn := Try.f23) (by kernel_rfl) (by kernel_rfl) (by kernel_rfl) _

/-! 45: stevedore/task.table (1 parameters) -/
def keep45 : List (Nat × List Nat) := [(3, [2]), (2, [2]), (1, [2, 4]), (0, [0, 2])]
def loops45 : List (Nat × List Nat × List (Nat × Nat × Nat)) := []
noncomputable def calls45 : List (Nat × Spec) := [(50, v50), (51, v51)]
def news45 : List (Nat × Nat) := []
noncomputable def E45 : Env := { ty := ty, call := callOf calls45, news := newsOf news45, keep := keepOf keep45, loops := loopsOf loops45 }
theorem ty45 : E45.ty = ty := rfl
theorem call45 (f : Nat) (args : List V) (S : St) : E45.call f args S = callOf calls45 f args S := rfl
theorem nw45 (f : Nat) : E45.news f = newsOf news45 f := rfl
theorem kp45 (f : Nat) : E45.keep f = keepOf keep45 f := rfl
theorem lp45 (f : Nat) : E45.loops f = loopsOf loops45 f := rfl
noncomputable def v45 : Spec := fnSpec E45 true Try.f45
theorem ok45 : SoundAt Try.prog 45 v45 := soundAt_of mixed tyOk rfl (by intro p hp; simp only [calls45, List.mem_cons, List.not_mem_nil, or_false] at hp; rcases hp with rfl | rfl <;> first | exact ok50 | exact ok51) (f := 45) (fn := Try.f45) (by kernel_rfl) (by kernel_rfl) (by kernel_rfl) _

/-! 24: (*stevedore/task.Task).Step (2 parameters) -/
def keep24 : List (Nat × List Nat) := [(15, [4, 5]), (12, [0]), (14, [0]), (9, [0]), (13, [0, 6, 38]), (11, [0, 6, 26, 30]), (10, [0, 6, 26, 30]), (8, [0, 6, 26]), (7, [0, 1, 6]), (2, [4, 5]), (4, [4, 5]), (6, [4, 5]), (5, [0, 1, 18]), (3, [0, 1, 11]), (1, [0, 1, 7]), (0, [0, 1])]
def loops24 : List (Nat × List Nat × List (Nat × Nat × Nat)) := []
noncomputable def calls24 : List (Nat × Spec) := [(44, v44), (23, v23), (45, v45), (49, v49), (50, v50), (51, v51)]
def news24 : List (Nat × Nat) := []
noncomputable def E24 : Env := { ty := ty, call := callOf calls24, news := newsOf news24, keep := keepOf keep24, loops := loopsOf loops24 }
theorem ty24 : E24.ty = ty := rfl
theorem call24 (f : Nat) (args : List V) (S : St) : E24.call f args S = callOf calls24 f args S := rfl
theorem nw24 (f : Nat) : E24.news f = newsOf news24 f := rfl
theorem kp24 (f : Nat) : E24.keep f = keepOf keep24 f := rfl
theorem lp24 (f : Nat) : E24.loops f = loopsOf loops24 f := rfl
noncomputable def v24 : Spec := fnSpec E24 true Try.f24
theorem ok24 : SoundAt Try.prog 24 v24 := soundAt_of mixed tyOk rfl (by intro p hp; simp only [calls24, List.mem_cons, List.not_mem_nil, or_false] at hp; rcases hp with rfl | rfl | rfl | rfl | rfl | rfl <;> first | exact ok44 | exact ok23 | exact ok45 | exact ok49 | exact ok50 | exact ok51) (f := 24) (fn := Try.f24) (by kernel_rfl) (by kernel_rfl) (by kernel_rfl) _

/-! 27: (*stevedore/task.Task).Waits (1 parameters) -/
def keep27 : List (Nat × List Nat) := [(3, [2]), (2, [2]), (1, [0, 5]), (0, [0])]
def loops27 : List (Nat × List Nat × List (Nat × Nat × Nat)) := []
noncomputable def calls27 : List (Nat × Spec) := [(44, v44)]
def news27 : List (Nat × Nat) := []
noncomputable def E27 : Env := { ty := ty, call := callOf calls27, news := newsOf news27, keep := keepOf keep27, loops := loopsOf loops27 }
theorem ty27 : E27.ty = ty := rfl
theorem call27 (f : Nat) (args : List V) (S : St) : E27.call f args S = callOf calls27 f args S := rfl
theorem nw27 (f : Nat) : E27.news f = newsOf news27 f := rfl
theorem kp27 (f : Nat) : E27.keep f = keepOf keep27 f := rfl
theorem lp27 (f : Nat) : E27.loops f = loopsOf loops27 f := rfl
noncomputable def v27 : Spec := fnSpec E27 true Try.f27
theorem ok27 : SoundAt Try.prog 27 v27 := soundAt_of mixed tyOk rfl (by intro p hp; simp only [calls27, List.mem_cons, List.not_mem_nil, or_false] at hp; rcases hp with rfl <;> first | exact ok44) (f := 27) (fn := Try.f27) (by kernel_rfl) (by kernel_rfl) (by kernel_rfl) _

/-! 21: stevedore/stevedorelaw20.works (0 parameters) -/
def keep21 : List (Nat × List Nat) := [(8, [0]), (7, [1, 3, 5, 7, 10]), (6, [1, 3, 5, 7]), (5, [1, 3, 5]), (4, [1, 3]), (3, [0]), (2, [1, 21]), (1, [1, 2]), (0, [])]
def loops21 : List (Nat × List Nat × List (Nat × Nat × Nat)) := []
noncomputable def calls21 : List (Nat × Spec) := [(22, v22), (24, v24), (23, v23), (27, v27)]
def news21 : List (Nat × Nat) := [(22, 1)]
noncomputable def E21 : Env := { ty := ty, call := callOf calls21, news := newsOf news21, keep := keepOf keep21, loops := loopsOf loops21 }
theorem ty21 : E21.ty = ty := rfl
theorem call21 (f : Nat) (args : List V) (S : St) : E21.call f args S = callOf calls21 f args S := rfl
theorem nw21 (f : Nat) : E21.news f = newsOf news21 f := rfl
theorem kp21 (f : Nat) : E21.keep f = keepOf keep21 f := rfl
theorem lp21 (f : Nat) : E21.loops f = loopsOf loops21 f := rfl
noncomputable def v21 : Spec := fnSpec E21 true Try.f21
theorem ok21 : SoundAt Try.prog 21 v21 := soundAt_of mixed tyOk rfl (by intro p hp; simp only [calls21, List.mem_cons, List.not_mem_nil, or_false] at hp; rcases hp with rfl | rfl | rfl | rfl <;> first | exact ok22 | exact ok24 | exact ok23 | exact ok27) (f := 21) (fn := Try.f21) (by kernel_rfl) (by kernel_rfl) (by kernel_rfl) _

/-! 25: (*stevedore/task.Task).State (1 parameters) -/
def keep25 : List (Nat × List Nat) := [(3, [2]), (2, [2]), (1, [0, 5]), (0, [0])]
def loops25 : List (Nat × List Nat × List (Nat × Nat × Nat)) := []
noncomputable def calls25 : List (Nat × Spec) := [(44, v44)]
def news25 : List (Nat × Nat) := []
noncomputable def E25 : Env := { ty := ty, call := callOf calls25, news := newsOf news25, keep := keepOf keep25, loops := loopsOf loops25 }
theorem ty25 : E25.ty = ty := rfl
theorem call25 (f : Nat) (args : List V) (S : St) : E25.call f args S = callOf calls25 f args S := rfl
theorem nw25 (f : Nat) : E25.news f = newsOf news25 f := rfl
theorem kp25 (f : Nat) : E25.keep f = keepOf keep25 f := rfl
theorem lp25 (f : Nat) : E25.loops f = loopsOf loops25 f := rfl
noncomputable def v25 : Spec := fnSpec E25 true Try.f25
theorem ok25 : SoundAt Try.prog 25 v25 := soundAt_of mixed tyOk rfl (by intro p hp; simp only [calls25, List.mem_cons, List.not_mem_nil, or_false] at hp; rcases hp with rfl <;> first | exact ok44) (f := 25) (fn := Try.f25) (by kernel_rfl) (by kernel_rfl) (by kernel_rfl) _

/-! 5: stevedore/stevedorelaw20.TaskDone (2 parameters) -/
def keep5 : List (Nat × List Nat) := [(17, [4]), (10, [1, 5, 7, 8]), (14, [1, 5, 7, 8]), (16, [4]), (15, [1, 5, 7, 8, 58]), (13, [1, 5, 7, 8, 9, 49]), (12, [1, 5, 7, 8, 9]), (11, [1, 5, 7, 8, 9]), (9, [1, 5, 7, 8, 33]), (8, [1, 5, 7, 8]), (7, [1, 5, 7]), (6, [4]), (5, [1, 5, 24]), (4, [1, 5, 6]), (3, [1, 2]), (2, [4]), (1, [1, 2, 11]), (0, [1, 2])]
def loops5 : List (Nat × List Nat × List (Nat × Nat × Nat)) := [(9, ([1, 5, 7, 8], []))]
noncomputable def calls5 : List (Nat × Spec) := [(21, v21), (22, v22), (23, v23), (16, v16), (24, v24), (25, v25)]
def news5 : List (Nat × Nat) := [(22, 1)]
noncomputable def E5 : Env := { ty := ty, call := callOf calls5, news := newsOf news5, keep := keepOf keep5, loops := loopsOf loops5 }
theorem ty5 : E5.ty = ty := rfl
theorem call5 (f : Nat) (args : List V) (S : St) : E5.call f args S = callOf calls5 f args S := rfl
theorem nw5 (f : Nat) : E5.news f = newsOf news5 f := rfl
theorem kp5 (f : Nat) : E5.keep f = keepOf keep5 f := rfl
theorem lp5 (f : Nat) : E5.loops f = loopsOf loops5 f := rfl
noncomputable def v5 : Spec := fnSpec E5 true Try.f5
theorem ok5 : SoundAt Try.prog 5 v5 := soundAt_of mixed tyOk rfl (by intro p hp; simp only [calls5, List.mem_cons, List.not_mem_nil, or_false] at hp; rcases hp with rfl | rfl | rfl | rfl | rfl | rfl <;> first | exact ok21 | exact ok22 | exact ok23 | exact ok16 | exact ok24 | exact ok25) (f := 5) (fn := Try.f5) (by kernel_rfl) (by kernel_rfl) (by kernel_rfl) _

/-! 26: (*stevedore/task.Task).Drop (1 parameters) -/
def keep26 : List (Nat × List Nat) := [(6, [2]), (5, []), (2, [2]), (4, [2]), (3, [0, 7]), (1, [0, 3]), (0, [0])]
def loops26 : List (Nat × List Nat × List (Nat × Nat × Nat)) := []
noncomputable def calls26 : List (Nat × Spec) := [(44, v44), (23, v23)]
def news26 : List (Nat × Nat) := []
noncomputable def E26 : Env := { ty := ty, call := callOf calls26, news := newsOf news26, keep := keepOf keep26, loops := loopsOf loops26 }
theorem ty26 : E26.ty = ty := rfl
theorem call26 (f : Nat) (args : List V) (S : St) : E26.call f args S = callOf calls26 f args S := rfl
theorem nw26 (f : Nat) : E26.news f = newsOf news26 f := rfl
theorem kp26 (f : Nat) : E26.keep f = keepOf keep26 f := rfl
theorem lp26 (f : Nat) : E26.loops f = loopsOf loops26 f := rfl
noncomputable def v26 : Spec := fnSpec E26 true Try.f26
theorem ok26 : SoundAt Try.prog 26 v26 := soundAt_of mixed tyOk rfl (by intro p hp; simp only [calls26, List.mem_cons, List.not_mem_nil, or_false] at hp; rcases hp with rfl | rfl <;> first | exact ok44 | exact ok23) (f := 26) (fn := Try.f26) (by kernel_rfl) (by kernel_rfl) (by kernel_rfl) _

/-! 6: stevedore/stevedorelaw20.TaskEnds (3 parameters) -/
def keep6 : List (Nat × List Nat) := [(16, [6]), (15, [7, 8, 11]), (14, [2, 7, 11]), (9, [1, 2, 7, 9]), (13, [1, 2, 7, 9]), (12, [1, 2, 7, 9, 10]), (11, [1, 2, 7, 9, 10, 34]), (10, [1, 2, 7, 9, 10]), (8, [1, 2, 7, 9, 28]), (7, [1, 2, 7, 9]), (6, [6]), (5, [1, 2, 7, 26]), (4, [1, 2, 7, 8]), (3, [1, 2, 3]), (2, [6]), (1, [1, 2, 3, 13]), (0, [1, 2, 3])]
def loops6 : List (Nat × List Nat × List (Nat × Nat × Nat)) := [(8, ([1, 2, 7, 9], []))]
noncomputable def calls6 : List (Nat × Spec) := [(21, v21), (22, v22), (16, v16), (24, v24), (25, v25), (23, v23), (26, v26), (27, v27)]
def news6 : List (Nat × Nat) := [(22, 1)]
noncomputable def E6 : Env := { ty := ty, call := callOf calls6, news := newsOf news6, keep := keepOf keep6, loops := loopsOf loops6 }
theorem ty6 : E6.ty = ty := rfl
theorem call6 (f : Nat) (args : List V) (S : St) : E6.call f args S = callOf calls6 f args S := rfl
theorem nw6 (f : Nat) : E6.news f = newsOf news6 f := rfl
theorem kp6 (f : Nat) : E6.keep f = keepOf keep6 f := rfl
theorem lp6 (f : Nat) : E6.loops f = loopsOf loops6 f := rfl
noncomputable def v6 : Spec := fnSpec E6 true Try.f6
theorem ok6 : SoundAt Try.prog 6 v6 := soundAt_of mixed tyOk rfl (by intro p hp; simp only [calls6, List.mem_cons, List.not_mem_nil, or_false] at hp; rcases hp with rfl | rfl | rfl | rfl | rfl | rfl | rfl | rfl <;> first | exact ok21 | exact ok22 | exact ok16 | exact ok24 | exact ok25 | exact ok23 | exact ok26 | exact ok27) (f := 6) (fn := Try.f6) (by kernel_rfl) (by kernel_rfl) (by kernel_rfl) _

/-! 7: stevedore/stevedorelaw20.TaskDrops (2 parameters) -/
def keep7 : List (Nat × List Nat) := [(15, [4]), (14, [4]), (13, [5, 8, 10, 45]), (12, [5, 8, 9, 10]), (11, [5, 8, 9]), (9, [1, 5, 7]), (10, [1, 5, 7]), (8, [1, 5, 7, 29]), (7, [1, 5, 7]), (6, [4]), (5, [1, 5, 25]), (4, [1, 5, 6]), (3, [1, 2]), (2, [4]), (1, [1, 2, 12]), (0, [1, 2])]
def loops7 : List (Nat × List Nat × List (Nat × Nat × Nat)) := [(8, ([1, 5, 7], []))]
noncomputable def calls7 : List (Nat × Spec) := [(21, v21), (22, v22), (16, v16), (24, v24), (25, v25), (23, v23), (26, v26)]
def news7 : List (Nat × Nat) := [(22, 1)]
noncomputable def E7 : Env := { ty := ty, call := callOf calls7, news := newsOf news7, keep := keepOf keep7, loops := loopsOf loops7 }
theorem ty7 : E7.ty = ty := rfl
theorem call7 (f : Nat) (args : List V) (S : St) : E7.call f args S = callOf calls7 f args S := rfl
theorem nw7 (f : Nat) : E7.news f = newsOf news7 f := rfl
theorem kp7 (f : Nat) : E7.keep f = keepOf keep7 f := rfl
theorem lp7 (f : Nat) : E7.loops f = loopsOf loops7 f := rfl
noncomputable def v7 : Spec := fnSpec E7 true Try.f7
theorem ok7 : SoundAt Try.prog 7 v7 := soundAt_of mixed tyOk rfl (by intro p hp; simp only [calls7, List.mem_cons, List.not_mem_nil, or_false] at hp; rcases hp with rfl | rfl | rfl | rfl | rfl | rfl | rfl <;> first | exact ok21 | exact ok22 | exact ok16 | exact ok24 | exact ok25 | exact ok23 | exact ok26) (f := 7) (fn := Try.f7) (by kernel_rfl) (by kernel_rfl) (by kernel_rfl) _

/-! 28: (*stevedore/watch.Watcher).Cut (2 parameters) -/
def keep28 : List (Nat × List Nat) := [(7, [4]), (6, [6]), (3, [4]), (5, [4]), (4, [5, 6, 17]), (2, [5, 6, 13]), (1, [5, 6]), (0, [0, 1])]
def loops28 : List (Nat × List Nat × List (Nat × Nat × Nat)) := []
noncomputable def calls28 : List (Nat × Spec) := [(41, v41)]
def news28 : List (Nat × Nat) := []
noncomputable def E28 : Env := { ty := ty, call := callOf calls28, news := newsOf news28, keep := keepOf keep28, loops := loopsOf loops28 }
theorem ty28 : E28.ty = ty := rfl
theorem call28 (f : Nat) (args : List V) (S : St) : E28.call f args S = callOf calls28 f args S := rfl
theorem nw28 (f : Nat) : E28.news f = newsOf news28 f := rfl
theorem kp28 (f : Nat) : E28.keep f = keepOf keep28 f := rfl
theorem lp28 (f : Nat) : E28.loops f = loopsOf loops28 f := rfl
noncomputable def v28 : Spec := fnSpec E28 true Try.f28
theorem ok28 : SoundAt Try.prog 28 v28 := soundAt_of mixed tyOk rfl (by intro p hp; simp only [calls28, List.mem_cons, List.not_mem_nil, or_false] at hp; rcases hp with rfl <;> first | exact ok41) (f := 28) (fn := Try.f28) (by kernel_rfl) (by kernel_rfl) (by kernel_rfl) _

/-! 29: (*stevedore/watch.Watcher).List (3 parameters) -/
def keep29 : List (Nat × List Nat) := [(7, [6]), (6, [8]), (3, [6]), (5, [6]), (4, [2, 7, 8, 19]), (2, [2, 7, 8, 15]), (1, [2, 7, 8]), (0, [0, 1, 2])]
def loops29 : List (Nat × List Nat × List (Nat × Nat × Nat)) := []
noncomputable def calls29 : List (Nat × Spec) := [(41, v41)]
def news29 : List (Nat × Nat) := []
noncomputable def E29 : Env := { ty := ty, call := callOf calls29, news := newsOf news29, keep := keepOf keep29, loops := loopsOf loops29 }
theorem ty29 : E29.ty = ty := rfl
theorem call29 (f : Nat) (args : List V) (S : St) : E29.call f args S = callOf calls29 f args S := rfl
theorem nw29 (f : Nat) : E29.news f = newsOf news29 f := rfl
theorem kp29 (f : Nat) : E29.keep f = keepOf keep29 f := rfl
theorem lp29 (f : Nat) : E29.loops f = loopsOf loops29 f := rfl
noncomputable def v29 : Spec := fnSpec E29 true Try.f29
theorem ok29 : SoundAt Try.prog 29 v29 := soundAt_of mixed tyOk rfl (by intro p hp; simp only [calls29, List.mem_cons, List.not_mem_nil, or_false] at hp; rcases hp with rfl <;> first | exact ok41) (f := 29) (fn := Try.f29) (by kernel_rfl) (by kernel_rfl) (by kernel_rfl) _

/-! 8: stevedore/stevedorelaw13.WatchApart (4 parameters) -/
def keep8 : List (Nat × List Nat) := [(25, [8]), (12, [1, 2, 3, 9, 10, 11, 12]), (20, [1, 2, 3, 9, 10, 11, 12]), (22, [1, 2, 3, 9, 10, 11, 12]), (24, [1, 2, 3, 9, 10, 11, 12]), (23, [1, 2, 3, 9, 10, 11, 12, 93]), (21, [1, 2, 3, 9, 10, 11, 12, 81, 88]), (19, [1, 2, 3, 9, 10, 11, 12, 81, 82]), (18, [1, 2, 3, 9, 10, 11, 12, 81]), (17, [8]), (16, [1, 2, 3, 9, 10, 11, 12, 75]), (15, [1, 2, 3, 9, 10, 11, 12, 14, 15, 16, 17]), (14, [1, 2, 3, 9, 10, 11, 12, 13, 14, 15]), (13, [1, 2, 3, 9, 10, 11, 12, 13]), (11, [1, 2, 3, 9, 10, 11, 12, 42]), (10, [1, 2, 3, 9, 10, 11, 12]), (9, [8]), (8, [1, 2, 3, 9, 10, 11, 38]), (7, [1, 2, 3, 9, 10, 11]), (6, [8]), (5, [1, 2, 3, 9, 30]), (4, [1, 2, 3, 9]), (3, [1, 2, 3, 9]), (2, [8]), (1, [0, 1, 2, 3, 19]), (0, [0, 1, 2, 3])]
def loops8 : List (Nat × List Nat × List (Nat × Nat × Nat)) := [(11, ([1, 2, 3, 9, 10, 11, 12], []))]
noncomputable def calls8 : List (Nat × Spec) := [(14, v14), (15, v15), (16, v16), (17, v17), (18, v18), (20, v20), (28, v28), (29, v29)]
def news8 : List (Nat × Nat) := [(17, 1)]
noncomputable def E8 : Env := { ty := ty, call := callOf calls8, news := newsOf news8, keep := keepOf keep8, loops := loopsOf loops8 }
theorem ty8 : E8.ty = ty := rfl
theorem call8 (f : Nat) (args : List V) (S : St) : E8.call f args S = callOf calls8 f args S := rfl
theorem nw8 (f : Nat) : E8.news f = newsOf news8 f := rfl
theorem kp8 (f : Nat) : E8.keep f = keepOf keep8 f := rfl
theorem lp8 (f : Nat) : E8.loops f = loopsOf loops8 f := rfl
noncomputable def v8 : Spec := fnSpec E8 true Try.f8
theorem ok8 : SoundAt Try.prog 8 v8 := soundAt_of mixed tyOk rfl (by intro p hp; simp only [calls8, List.mem_cons, List.not_mem_nil, or_false] at hp; rcases hp with rfl | rfl | rfl | rfl | rfl | rfl | rfl | rfl <;> first | exact ok14 | exact ok15 | exact ok16 | exact ok17 | exact ok18 | exact ok20 | exact ok28 | exact ok29) (f := 8) (fn := Try.f8) (by kernel_rfl) (by kernel_rfl) (by kernel_rfl) _

/-! 30: stevedore/stevedoreref13.Rest (3 parameters) -/
def keep30 : List (Nat × List Nat) := [(7, [6]), (4, [0, 1, 2, 7, 8]), (6, [0, 1, 2, 7, 8]), (5, [0, 1, 2, 7, 8, 32]), (3, [0, 1, 2, 7, 8, 13]), (2, [0, 1, 2, 7, 8]), (1, [0, 1, 2, 7]), (0, [0, 1, 2])]
def loops30 : List (Nat × List Nat × List (Nat × Nat × Nat)) := [(3, ([0, 1, 2, 7, 8], [(7, (78, 42))]))]
noncomputable def calls30 : List (Nat × Spec) := []
def news30 : List (Nat × Nat) := []
noncomputable def E30 : Env := { ty := ty, call := callOf calls30, news := newsOf news30, keep := keepOf keep30, loops := loopsOf loops30 }
theorem ty30 : E30.ty = ty := rfl
theorem call30 (f : Nat) (args : List V) (S : St) : E30.call f args S = callOf calls30 f args S := rfl
theorem nw30 (f : Nat) : E30.news f = newsOf news30 f := rfl
theorem kp30 (f : Nat) : E30.keep f = keepOf keep30 f := rfl
theorem lp30 (f : Nat) : E30.loops f = loopsOf loops30 f := rfl
noncomputable def v30 : Spec := fnSpec E30 true Try.f30
theorem ok30 : SoundAt Try.prog 30 v30 := soundAt_of mixed tyOk rfl (by intro p hp; simp [calls30] at hp) (f := 30) (fn := Try.f30) (by kernel_rfl) (by kernel_rfl) (by kernel_rfl) _

/-! 9: stevedore/stevedorelaw13.WatchLists (4 parameters) -/
def keep9 : List (Nat × List Nat) := [(20, [8]), (17, [1, 3, 9, 11, 12, 13]), (19, [8]), (18, [1, 3, 9, 11, 12, 13, 97]), (16, [1, 3, 9, 11, 12, 13, 78]), (15, [1, 3, 9, 11, 12, 13]), (14, [1, 3, 9, 11, 12]), (13, [8]), (12, [1, 3, 9, 10, 65]), (11, [1, 3, 9, 10, 11, 12]), (10, [8]), (9, [1, 3, 9, 10, 44]), (8, [1, 3, 9, 10]), (7, [8]), (6, [1, 2, 3, 9, 10, 28]), (5, [1, 2, 3, 9, 10]), (4, [1, 2, 3, 9]), (3, [1, 2, 3, 9]), (2, [8]), (1, [0, 1, 2, 3, 15]), (0, [0, 1, 2, 3])]
def loops9 : List (Nat × List Nat × List (Nat × Nat × Nat)) := [(16, ([1, 3, 9, 11, 12, 13], []))]
noncomputable def calls9 : List (Nat × Spec) := [(14, v14), (15, v15), (16, v16), (17, v17), (18, v18), (28, v28), (29, v29), (30, v30)]
def news9 : List (Nat × Nat) := [(17, 1)]
noncomputable def E9 : Env := { ty := ty, call := callOf calls9, news := newsOf news9, keep := keepOf keep9, loops := loopsOf loops9 }
theorem ty9 : E9.ty = ty := rfl
theorem call9 (f : Nat) (args : List V) (S : St) : E9.call f args S = callOf calls9 f args S := rfl
theorem nw9 (f : Nat) : E9.news f = newsOf news9 f := rfl
theorem kp9 (f : Nat) : E9.keep f = keepOf keep9 f := rfl
theorem lp9 (f : Nat) : E9.loops f = loopsOf loops9 f := rfl
noncomputable def v9 : Spec := fnSpec E9 true Try.f9
theorem ok9 : SoundAt Try.prog 9 v9 := soundAt_of mixed tyOk rfl (by intro p hp; simp only [calls9, List.mem_cons, List.not_mem_nil, or_false] at hp; rcases hp with rfl | rfl | rfl | rfl | rfl | rfl | rfl | rfl <;> first | exact ok14 | exact ok15 | exact ok16 | exact ok17 | exact ok18 | exact ok28 | exact ok29 | exact ok30) (f := 9) (fn := Try.f9) (by kernel_rfl) (by kernel_rfl) (by kernel_rfl) _

/-! 31: stevedore/stevedoreref13.New (1 parameters) -/
def keep31 : List (Nat × List Nat) := [(7, [2]), (4, [0, 3, 4]), (6, [0, 3, 4]), (5, [0, 3, 4]), (3, [0, 3, 4, 8]), (2, [0, 3, 4]), (1, [0, 3]), (0, [0])]
def loops31 : List (Nat × List Nat × List (Nat × Nat × Nat)) := [(3, ([0, 3, 4], []))]
noncomputable def calls31 : List (Nat × Spec) := []
def news31 : List (Nat × Nat) := []
noncomputable def E31 : Env := { ty := ty, call := callOf calls31, news := newsOf news31, keep := keepOf keep31, loops := loopsOf loops31 }
theorem ty31 : E31.ty = ty := rfl
theorem call31 (f : Nat) (args : List V) (S : St) : E31.call f args S = callOf calls31 f args S := rfl
theorem nw31 (f : Nat) : E31.news f = newsOf news31 f := rfl
theorem kp31 (f : Nat) : E31.keep f = keepOf keep31 f := rfl
theorem lp31 (f : Nat) : E31.loops f = loopsOf loops31 f := rfl
noncomputable def v31 : Spec := fnSpec E31 false Try.f31
theorem ok31 : SoundAt Try.prog 31 v31 := soundAt_of mixed tyOk rfl (by intro p hp; simp [calls31] at hp) (f := 31) (fn := Try.f31) (by kernel_rfl) (by kernel_rfl) (by kernel_rfl) _

/-! 46: stevedore/stevedoreref13.kind (1 parameters) -/
def keep46 : List (Nat × List Nat) := [(1, [2]), (0, [0])]
def loops46 : List (Nat × List Nat × List (Nat × Nat × Nat)) := []
noncomputable def calls46 : List (Nat × Spec) := []
def news46 : List (Nat × Nat) := []
noncomputable def E46 : Env := { ty := ty, call := callOf calls46, news := newsOf news46, keep := keepOf keep46, loops := loopsOf loops46 }
theorem ty46 : E46.ty = ty := rfl
theorem call46 (f : Nat) (args : List V) (S : St) : E46.call f args S = callOf calls46 f args S := rfl
theorem nw46 (f : Nat) : E46.news f = newsOf news46 f := rfl
theorem kp46 (f : Nat) : E46.keep f = keepOf keep46 f := rfl
theorem lp46 (f : Nat) : E46.loops f = loopsOf loops46 f := rfl
noncomputable def v46 : Spec := fnSpec E46 true Try.f46
theorem ok46 : SoundAt Try.prog 46 v46 := soundAt_of mixed tyOk rfl (by intro p hp; simp [calls46] at hp) (f := 46) (fn := Try.f46) (by kernel_rfl) (by kernel_rfl) (by kernel_rfl) _

/-! 32: (*stevedore/stevedoreref13.Watcher).Next (4 parameters) -/
def keep32 : List (Nat × List Nat) := [(9, [8, 9]), (8, [10]), (7, [0, 1, 10, 43]), (6, [0, 1, 10]), (5, [0, 1, 2, 10]), (4, [8, 9]), (3, [0, 1, 2, 3, 24]), (2, [8, 9]), (1, [0, 1, 2, 3, 17]), (0, [0, 1, 2, 3])]
def loops32 : List (Nat × List Nat × List (Nat × Nat × Nat)) := []
noncomputable def calls32 : List (Nat × Spec) := [(46, v46), (30, v30)]
def news32 : List (Nat × Nat) := []
noncomputable def E32 : Env := { ty := ty, call := callOf calls32, news := newsOf news32, keep := keepOf keep32, loops := loopsOf loops32 }
theorem ty32 : E32.ty = ty := rfl
theorem call32 (f : Nat) (args : List V) (S : St) : E32.call f args S = callOf calls32 f args S := rfl
theorem nw32 (f : Nat) : E32.news f = newsOf news32 f := rfl
theorem kp32 (f : Nat) : E32.keep f = keepOf keep32 f := rfl
theorem lp32 (f : Nat) : E32.loops f = loopsOf loops32 f := rfl
noncomputable def v32 : Spec := fnSpec E32 true Try.f32
theorem ok32 : SoundAt Try.prog 32 v32 := soundAt_of mixed tyOk rfl (by intro p hp; simp only [calls32, List.mem_cons, List.not_mem_nil, or_false] at hp; rcases hp with rfl | rfl <;> first | exact ok46 | exact ok30) (f := 32) (fn := Try.f32) (by kernel_rfl) (by kernel_rfl) (by kernel_rfl) _

/-! 33: (*stevedore/stevedoreref13.Watcher).Cut (2 parameters) -/
def keep33 : List (Nat × List Nat) := [(6, [4]), (5, []), (4, [4]), (3, [0, 1, 14]), (2, [4]), (1, [0, 1, 7]), (0, [0, 1])]
def loops33 : List (Nat × List Nat × List (Nat × Nat × Nat)) := []
noncomputable def calls33 : List (Nat × Spec) := [(46, v46)]
def news33 : List (Nat × Nat) := []
noncomputable def E33 : Env := { ty := ty, call := callOf calls33, news := newsOf news33, keep := keepOf keep33, loops := loopsOf loops33 }
theorem ty33 : E33.ty = ty := rfl
theorem call33 (f : Nat) (args : List V) (S : St) : E33.call f args S = callOf calls33 f args S := rfl
theorem nw33 (f : Nat) : E33.news f = newsOf news33 f := rfl
theorem kp33 (f : Nat) : E33.keep f = keepOf keep33 f := rfl
theorem lp33 (f : Nat) : E33.loops f = loopsOf loops33 f := rfl
noncomputable def v33 : Spec := fnSpec E33 true Try.f33
theorem ok33 : SoundAt Try.prog 33 v33 := soundAt_of mixed tyOk rfl (by intro p hp; simp only [calls33, List.mem_cons, List.not_mem_nil, or_false] at hp; rcases hp with rfl <;> first | exact ok46) (f := 33) (fn := Try.f33) (by kernel_rfl) (by kernel_rfl) (by kernel_rfl) _

/-! 34: (*stevedore/stevedoreref13.Watcher).List (3 parameters) -/
def keep34 : List (Nat × List Nat) := [(4, [6]), (3, []), (2, [6]), (1, [0, 1, 2, 13]), (0, [0, 1, 2])]
def loops34 : List (Nat × List Nat × List (Nat × Nat × Nat)) := []
noncomputable def calls34 : List (Nat × Spec) := [(46, v46)]
def news34 : List (Nat × Nat) := []
noncomputable def E34 : Env := { ty := ty, call := callOf calls34, news := newsOf news34, keep := keepOf keep34, loops := loopsOf loops34 }
theorem ty34 : E34.ty = ty := rfl
theorem call34 (f : Nat) (args : List V) (S : St) : E34.call f args S = callOf calls34 f args S := rfl
theorem nw34 (f : Nat) : E34.news f = newsOf news34 f := rfl
theorem kp34 (f : Nat) : E34.keep f = keepOf keep34 f := rfl
theorem lp34 (f : Nat) : E34.loops f = loopsOf loops34 f := rfl
noncomputable def v34 : Spec := fnSpec E34 true Try.f34
theorem ok34 : SoundAt Try.prog 34 v34 := soundAt_of mixed tyOk rfl (by intro p hp; simp only [calls34, List.mem_cons, List.not_mem_nil, or_false] at hp; rcases hp with rfl <;> first | exact ok46) (f := 34) (fn := Try.f34) (by kernel_rfl) (by kernel_rfl) (by kernel_rfl) _

/-! 35: (*stevedore/watch.Watcher).Clone (1 parameters) -/
def keep35 : List (Nat × List Nat) := [(4, [2]), (3, [3]), (2, [2]), (1, [0, 12]), (0, [0])]
def loops35 : List (Nat × List Nat × List (Nat × Nat × Nat)) := []
noncomputable def calls35 : List (Nat × Spec) := []
def news35 : List (Nat × Nat) := []
noncomputable def E35 : Env := { ty := ty, call := callOf calls35, news := newsOf news35, keep := keepOf keep35, loops := loopsOf loops35 }
theorem ty35 : E35.ty = ty := rfl
theorem call35 (f : Nat) (args : List V) (S : St) : E35.call f args S = callOf calls35 f args S := rfl
theorem nw35 (f : Nat) : E35.news f = newsOf news35 f := rfl
theorem kp35 (f : Nat) : E35.keep f = keepOf keep35 f := rfl
theorem lp35 (f : Nat) : E35.loops f = loopsOf loops35 f := rfl
noncomputable def v35 : Spec := fnSpec E35 false Try.f35
theorem ok35 : SoundAt Try.prog 35 v35 := soundAt_of mixed tyOk rfl (by intro p hp; simp [calls35] at hp) (f := 35) (fn := Try.f35) (by kernel_rfl) (by kernel_rfl) (by kernel_rfl) _

/-! 10: stevedore/stevedorelaw13.WatchPlays (3 parameters) -/
def keep10 : List (Nat × List Nat) := [(40, [6]), (39, [24, 26]), (38, [7, 9, 24]), (8, [2, 7, 8, 9, 10]), (33, [2, 7, 8, 9, 10, 18]), (37, [6]), (36, [2, 7, 8, 9, 10, 18, 169]), (35, [2, 7, 8, 9, 10, 18, 19, 20, 21, 22]), (34, [2, 7, 8, 9, 10, 18, 19, 20]), (32, [2, 7, 8, 9, 10, 18, 122]), (31, [2, 7, 8, 9, 10, 18]), (30, [6]), (29, [2, 7, 8, 9, 10, 120]), (17, [2, 7, 8, 9, 10, 12]), (16, [2, 7, 8, 9, 10, 13, 14, 15, 16]), (15, [2, 7, 8, 9, 10, 11, 13, 14]), (19, [2, 7, 8, 9, 10, 12]), (21, [2, 7, 8, 9, 10, 12]), (28, [2, 7, 8, 9, 10, 12]), (27, [2, 8, 9, 10, 12, 17]), (26, [2, 7, 8, 9, 10, 12, 17]), (25, [6]), (24, [2, 7, 8, 9, 10, 11, 12, 17, 111]), (23, [2, 7, 8, 9, 10, 11, 12, 17]), (22, [2, 7, 8, 9, 10, 11, 12, 106]), (20, [2, 7, 8, 9, 10, 11, 12, 47, 91]), (18, [2, 7, 8, 9, 10, 11, 12, 47, 80]), (14, [2, 7, 8, 9, 10, 11, 12, 47, 48]), (13, [2, 7, 8, 9, 10, 11, 12, 47, 48]), (12, [2, 7, 8, 9, 10, 11, 12, 47, 48]), (11, [2, 7, 8, 9, 10, 11, 12, 47]), (10, [2, 7, 8, 9, 10, 11, 12]), (9, [2, 7, 8, 9, 10, 11]), (7, [2, 7, 8, 9, 10, 38]), (6, [2, 7, 8, 9, 10]), (5, [2, 7, 8, 9]), (4, [1, 2, 7, 8]), (3, [6]), (2, [0, 1, 2, 7, 30]), (1, [0, 1, 2, 7]), (0, [0, 1, 2])]
def loops10 : List (Nat × List Nat × List (Nat × Nat × Nat)) := [(32, ([2, 7, 8, 9, 10, 18], [])), (7, ([2, 7, 8, 9, 10], []))]
noncomputable def calls10 : List (Nat × Spec) := [(17, v17), (31, v31), (15, v15), (16, v16), (18, v18), (32, v32), (20, v20), (28, v28), (33, v33), (29, v29), (34, v34), (35, v35), (36, v36), (19, v19), (30, v30), (14, v14)]
def news10 : List (Nat × Nat) := [(17, 1), (31, 2), (35, 1)]
noncomputable def E10 : Env := { ty := ty, call := callOf calls10, news := newsOf news10, keep := keepOf keep10, loops := loopsOf loops10 }
theorem ty10 : E10.ty = ty := rfl
theorem call10 (f : Nat) (args : List V) (S : St) : E10.call f args S = callOf calls10 f args S := rfl
theorem nw10 (f : Nat) : E10.news f = newsOf news10 f := rfl
theorem kp10 (f : Nat) : E10.keep f = keepOf keep10 f := rfl
theorem lp10 (f : Nat) : E10.loops f = loopsOf loops10 f := rfl
noncomputable def v10 : Spec := fnSpec E10 true Try.f10
theorem ok10 : SoundAt Try.prog 10 v10 := soundAt_of mixed tyOk rfl (by intro p hp; simp only [calls10, List.mem_cons, List.not_mem_nil, or_false] at hp; rcases hp with rfl | rfl | rfl | rfl | rfl | rfl | rfl | rfl | rfl | rfl | rfl | rfl | rfl | rfl | rfl | rfl <;> first | exact ok17 | exact ok31 | exact ok15 | exact ok16 | exact ok18 | exact ok32 | exact ok20 | exact ok28 | exact ok33 | exact ok29 | exact ok34 | exact ok35 | exact ok36 | exact ok19 | exact ok30 | exact ok14) (f := 10) (fn := Try.f10) (by kernel_rfl) (by kernel_rfl) (by kernel_rfl) _

/-! 11: stevedore/stevedorelaw13.WatchNone (1 parameters) -/
def keep11 : List (Nat × List Nat) := [(11, [2]), (10, [3, 4, 6, 8, 10, 12, 14, 16]), (9, [3, 4, 6, 8, 10, 12, 14]), (8, [3, 4, 6, 8, 10, 12]), (7, [3, 4, 6, 8, 10]), (6, [3, 4, 6, 8]), (5, [1, 3, 4, 6]), (4, [1, 3, 4]), (3, [1, 3]), (2, [2]), (1, [1, 18]), (0, [1])]
def loops11 : List (Nat × List Nat × List (Nat × Nat × Nat)) := []
noncomputable def calls11 : List (Nat × Spec) := [(14, v14), (18, v18), (36, v36), (19, v19), (28, v28), (29, v29), (35, v35)]
def news11 : List (Nat × Nat) := [(35, 1)]
noncomputable def E11 : Env := { ty := ty, call := callOf calls11, news := newsOf news11, keep := keepOf keep11, loops := loopsOf loops11 }
theorem ty11 : E11.ty = ty := rfl
theorem call11 (f : Nat) (args : List V) (S : St) : E11.call f args S = callOf calls11 f args S := rfl
theorem nw11 (f : Nat) : E11.news f = newsOf news11 f := rfl
theorem kp11 (f : Nat) : E11.keep f = keepOf keep11 f := rfl
theorem lp11 (f : Nat) : E11.loops f = loopsOf loops11 f := rfl
noncomputable def v11 : Spec := fnSpec E11 true Try.f11
theorem ok11 : SoundAt Try.prog 11 v11 := soundAt_of mixed tyOk rfl (by intro p hp; simp only [calls11, List.mem_cons, List.not_mem_nil, or_false] at hp; rcases hp with rfl | rfl | rfl | rfl | rfl | rfl | rfl <;> first | exact ok14 | exact ok18 | exact ok36 | exact ok19 | exact ok28 | exact ok29 | exact ok35) (f := 11) (fn := Try.f11) (by kernel_rfl) (by kernel_rfl) (by kernel_rfl) _

/-! 39: (*stevedore/task.Task).Bind (1 parameters) -/
def keep39 : List (Nat × List Nat) := [(5, [2]), (4, [2, 3]), (3, [2, 3]), (2, [2]), (1, [0, 2, 6]), (0, [0, 2])]
def loops39 : List (Nat × List Nat × List (Nat × Nat × Nat)) := []
noncomputable def calls39 : List (Nat × Spec) := [(44, v44), (43, v43)]
def news39 : List (Nat × Nat) := []
noncomputable def E39 : Env := { ty := ty, call := callOf calls39, news := newsOf news39, keep := keepOf keep39, loops := loopsOf loops39 }
theorem ty39 : E39.ty = ty := rfl
theorem call39 (f : Nat) (args : List V) (S : St) : E39.call f args S = callOf calls39 f args S := rfl
theorem nw39 (f : Nat) : E39.news f = newsOf news39 f := rfl
theorem kp39 (f : Nat) : E39.keep f = keepOf keep39 f := rfl
theorem lp39 (f : Nat) : E39.loops f = loopsOf loops39 f := rfl
noncomputable def v39 : Spec := fnSpec E39 true Try.f39
theorem ok39 : SoundAt Try.prog 39 v39 := soundAt_of mixed tyOk rfl (by intro p hp; simp only [calls39, List.mem_cons, List.not_mem_nil, or_false] at hp; rcases hp with rfl | rfl <;> first | exact ok44 | exact ok43) (f := 39) (fn := Try.f39) (by kernel_rfl) (by kernel_rfl) (by kernel_rfl) _

/-! 37: (*stevedore/task.Task).Clone (1 parameters) -/
def keep37 : List (Nat × List Nat) := [(5, [2]), (4, [3]), (3, [0, 3]), (2, [2]), (1, [0, 6]), (0, [0])]
def loops37 : List (Nat × List Nat × List (Nat × Nat × Nat)) := []
noncomputable def calls37 : List (Nat × Spec) := [(44, v44), (39, v39)]
def news37 : List (Nat × Nat) := []
noncomputable def E37 : Env := { ty := ty, call := callOf calls37, news := newsOf news37, keep := keepOf keep37, loops := loopsOf loops37 }
theorem ty37 : E37.ty = ty := rfl
theorem call37 (f : Nat) (args : List V) (S : St) : E37.call f args S = callOf calls37 f args S := rfl
theorem nw37 (f : Nat) : E37.news f = newsOf news37 f := rfl
theorem kp37 (f : Nat) : E37.keep f = keepOf keep37 f := rfl
theorem lp37 (f : Nat) : E37.loops f = loopsOf loops37 f := rfl
noncomputable def v37 : Spec := fnSpec E37 false Try.f37
theorem ok37 : SoundAt Try.prog 37 v37 := soundAt_of mixed tyOk rfl (by intro p hp; simp only [calls37, List.mem_cons, List.not_mem_nil, or_false] at hp; rcases hp with rfl | rfl <;> first | exact ok44 | exact ok39) (f := 37) (fn := Try.f37) (by kernel_rfl) (by kernel_rfl) (by kernel_rfl) _

/-! 38: stevedore/stevedoreref20.Next (3 parameters) -/
def keep38 : List (Nat × List Nat) := [(15, [6, 7, 8]), (10, [6, 7, 8]), (9, [6, 7, 8]), (8, [1, 30]), (7, [6, 7, 8]), (6, [1, 2, 26]), (5, [6, 7, 8]), (4, [1, 2, 19]), (14, [6, 7, 8]), (13, [6, 7, 8]), (12, [1, 36]), (11, [0, 1, 9, 34]), (3, [0, 1, 2, 9, 16, 17]), (2, [0, 1, 2, 9, 16]), (1, [0, 1, 2, 9]), (0, [0, 1, 2])]
def loops38 : List (Nat × List Nat × List (Nat × Nat × Nat)) := []
noncomputable def calls38 : List (Nat × Spec) := []
def news38 : List (Nat × Nat) := []
noncomputable def E38 : Env := { ty := ty, call := callOf calls38, news := newsOf news38, keep := keepOf keep38, loops := loopsOf loops38 }
theorem ty38 : E38.ty = ty := rfl
theorem call38 (f : Nat) (args : List V) (S : St) : E38.call f args S = callOf calls38 f args S := rfl
theorem nw38 (f : Nat) : E38.news f = newsOf news38 f := rfl
theorem kp38 (f : Nat) : E38.keep f = keepOf keep38 f := rfl
theorem lp38 (f : Nat) : E38.loops f = loopsOf loops38 f := rfl
noncomputable def v38 : Spec := fnSpec E38 true Try.f38
theorem ok38 : SoundAt Try.prog 38 v38 := soundAt_of mixed tyOk rfl (by intro p hp; simp [calls38] at hp) (f := 38) (fn := Try.f38) (by kernel_rfl) (by kernel_rfl) (by kernel_rfl) _

/-! 47: stevedore/stevedorebase.SamePicks (2 parameters) -/
def keep47 : List (Nat × List Nat) := [(8, [4]), (5, [0, 1, 5]), (7, [4]), (6, [0, 1, 5, 25]), (4, [0, 1, 5, 14]), (3, [0, 1, 5]), (2, [4]), (1, [0, 1, 10]), (0, [0, 1])]
def loops47 : List (Nat × List Nat × List (Nat × Nat × Nat)) := [(4, ([0, 1, 5], []))]
noncomputable def calls47 : List (Nat × Spec) := []
def news47 : List (Nat × Nat) := []
noncomputable def E47 : Env := { ty := ty, call := callOf calls47, news := newsOf news47, keep := keepOf keep47, loops := loopsOf loops47 }
theorem ty47 : E47.ty = ty := rfl
theorem call47 (f : Nat) (args : List V) (S : St) : E47.call f args S = callOf calls47 f args S := rfl
theorem nw47 (f : Nat) : E47.news f = newsOf news47 f := rfl
theorem kp47 (f : Nat) : E47.keep f = keepOf keep47 f := rfl
theorem lp47 (f : Nat) : E47.loops f = loopsOf loops47 f := rfl
noncomputable def v47 : Spec := fnSpec E47 true Try.f47
theorem ok47 : SoundAt Try.prog 47 v47 := soundAt_of mixed tyOk rfl (by intro p hp; simp [calls47] at hp) (f := 47) (fn := Try.f47) (by kernel_rfl) (by kernel_rfl) (by kernel_rfl) _

/-! 40: stevedore/stevedorelaw20.same (2 parameters) -/
def keep40 : List (Nat × List Nat) := [(1, [4]), (0, [2, 3])]
def loops40 : List (Nat × List Nat × List (Nat × Nat × Nat)) := []
noncomputable def calls40 : List (Nat × Spec) := [(47, v47)]
def news40 : List (Nat × Nat) := []
noncomputable def E40 : Env := { ty := ty, call := callOf calls40, news := newsOf news40, keep := keepOf keep40, loops := loopsOf loops40 }
theorem ty40 : E40.ty = ty := rfl
theorem call40 (f : Nat) (args : List V) (S : St) : E40.call f args S = callOf calls40 f args S := rfl
theorem nw40 (f : Nat) : E40.news f = newsOf news40 f := rfl
theorem kp40 (f : Nat) : E40.keep f = keepOf keep40 f := rfl
theorem lp40 (f : Nat) : E40.loops f = loopsOf loops40 f := rfl
noncomputable def v40 : Spec := fnSpec E40 true Try.f40
theorem ok40 : SoundAt Try.prog 40 v40 := soundAt_of mixed tyOk rfl (by intro p hp; simp only [calls40, List.mem_cons, List.not_mem_nil, or_false] at hp; rcases hp with rfl <;> first | exact ok47) (f := 40) (fn := Try.f40) (by kernel_rfl) (by kernel_rfl) (by kernel_rfl) _

/-! 12: stevedore/stevedorelaw20.TaskPlays (2 parameters) -/
def keep12 : List (Nat × List Nat) := [(50, [4]), (48, [2, 6, 20, 21]), (49, [2, 6, 20, 21]), (47, [2, 6, 20, 21, 196]), (46, [2, 6, 20, 21]), (45, [4]), (44, [2, 6, 20, 191]), (43, [2, 6, 20]), (18, [1, 2, 6, 10, 11, 12]), (42, [4]), (41, [1, 2, 6, 10, 11, 12, 185]), (34, [1, 2, 6, 10, 11, 12]), (33, [1, 2, 10, 11, 12, 13]), (32, [1, 2, 6, 10, 11, 12, 13]), (31, [4]), (30, [1, 2, 6, 10, 11, 12, 13, 144]), (29, [1, 2, 6, 10, 11, 12, 13]), (40, [1, 2, 6, 10, 11, 12]), (39, [1, 2, 6, 10, 11, 12, 164]), (38, [4]), (37, [1, 2, 6, 10, 11, 12, 14, 162]), (36, [1, 2, 6, 10, 11, 12, 14]), (27, [1, 2, 6, 10, 11, 12]), (26, [4]), (25, [1, 2, 6, 12, 17, 18, 136]), (24, [1, 2, 6, 12, 15, 16, 17, 18, 19]), (23, [4]), (22, [1, 2, 6, 10, 11, 12, 101]), (21, [1, 2, 6, 10, 11, 12, 15, 16, 95]), (20, [1, 2, 6, 10, 11, 12, 15, 16]), (35, [1, 2, 6, 10, 11, 12, 150]), (28, [1, 2, 6, 10, 11, 12, 74, 139]), (19, [1, 2, 6, 10, 11, 12, 74]), (17, [1, 2, 6, 10, 11, 12, 68]), (16, [1, 2, 6, 10, 11, 12]), (15, [1, 2, 6, 10, 11]), (13, [1, 2, 5, 6, 9]), (14, [1, 2, 5, 6, 9]), (12, [1, 2, 5, 6, 9, 57]), (11, [1, 2, 5, 6, 9]), (10, [4]), (9, [1, 2, 5, 6, 52]), (8, [4]), (7, [1, 2, 5, 6, 50]), (6, [1, 2, 5, 6, 7, 8]), (5, [1, 2, 5, 6, 7, 8, 40]), (4, [1, 2, 5, 6, 7, 8]), (3, [1, 2, 5, 6, 7]), (2, [1, 2, 5]), (1, [1, 2, 5]), (0, [1, 2])]
def loops12 : List (Nat × List Nat × List (Nat × Nat × Nat)) := [(47, ([2, 6, 20, 21], [])), (17, ([1, 2, 6, 10, 11, 12], [])), (12, ([1, 2, 5, 6, 9], []))]
noncomputable def calls12 : List (Nat × Spec) := [(22, v22), (37, v37), (24, v24), (26, v26), (38, v38), (25, v25), (27, v27), (23, v23), (39, v39), (40, v40), (21, v21)]
def news12 : List (Nat × Nat) := [(22, 1), (37, 1)]
noncomputable def E12 : Env := { ty := ty, call := callOf calls12, news := newsOf news12, keep := keepOf keep12, loops := loopsOf loops12 }
theorem ty12 : E12.ty = ty := rfl
theorem call12 (f : Nat) (args : List V) (S : St) : E12.call f args S = callOf calls12 f args S := rfl
theorem nw12 (f : Nat) : E12.news f = newsOf news12 f := rfl
theorem kp12 (f : Nat) : E12.keep f = keepOf keep12 f := rfl
theorem lp12 (f : Nat) : E12.loops f = loopsOf loops12 f := rfl
noncomputable def v12 : Spec := fnSpec E12 true Try.f12
theorem ok12 : SoundAt Try.prog 12 v12 := soundAt_of mixed tyOk rfl (by intro p hp; simp only [calls12, List.mem_cons, List.not_mem_nil, or_false] at hp; rcases hp with rfl | rfl | rfl | rfl | rfl | rfl | rfl | rfl | rfl | rfl | rfl <;> first | exact ok22 | exact ok37 | exact ok24 | exact ok26 | exact ok38 | exact ok25 | exact ok27 | exact ok23 | exact ok39 | exact ok40 | exact ok21) (f := 12) (fn := Try.f12) (by kernel_rfl) (by kernel_rfl) (by kernel_rfl) _

/-! 13: stevedore/stevedorelaw20.TaskNone (1 parameters) -/
def keep13 : List (Nat × List Nat) := [(7, [2]), (6, [3, 4, 6, 8]), (5, [0, 3, 4, 6]), (4, [0, 3, 4]), (3, [0, 3]), (2, [2]), (1, [0, 10]), (0, [0])]
def loops13 : List (Nat × List Nat × List (Nat × Nat × Nat)) := []
noncomputable def calls13 : List (Nat × Spec) := [(21, v21), (24, v24), (26, v26), (25, v25), (27, v27), (23, v23), (39, v39), (40, v40), (37, v37)]
def news13 : List (Nat × Nat) := [(37, 1)]
noncomputable def E13 : Env := { ty := ty, call := callOf calls13, news := newsOf news13, keep := keepOf keep13, loops := loopsOf loops13 }
theorem ty13 : E13.ty = ty := rfl
theorem call13 (f : Nat) (args : List V) (S : St) : E13.call f args S = callOf calls13 f args S := rfl
theorem nw13 (f : Nat) : E13.news f = newsOf news13 f := rfl
theorem kp13 (f : Nat) : E13.keep f = keepOf keep13 f := rfl
theorem lp13 (f : Nat) : E13.loops f = loopsOf loops13 f := rfl
noncomputable def v13 : Spec := fnSpec E13 true Try.f13
theorem ok13 : SoundAt Try.prog 13 v13 := soundAt_of mixed tyOk rfl (by intro p hp; simp only [calls13, List.mem_cons, List.not_mem_nil, or_false] at hp; rcases hp with rfl | rfl | rfl | rfl | rfl | rfl | rfl | rfl | rfl <;> first | exact ok21 | exact ok24 | exact ok26 | exact ok25 | exact ok27 | exact ok23 | exact ok39 | exact ok40 | exact ok37) (f := 13) (fn := Try.f13) (by kernel_rfl) (by kernel_rfl) (by kernel_rfl) _
end Go.Vm.Try1
