/-
  A part of the proof: an abstract run of the program, shown to be what the model does, and what it comes to.
-/
import Derived.Test.YtfopbbeieegfcaaWmRu
import Derived.Test.YtfopbbeieegfcaaProg
import Derived.KernelRfl
set_option linter.unusedSectionVars false
set_option linter.unnecessarySimpa false
set_option maxRecDepth 100000
set_option linter.unusedVariables false
set_option linter.unusedSimpArgs false
set_option linter.defProp false
namespace Go.Wm.Try1
open Go Go.Wm Go.Proofs
def tab : List (Nat × TI) := [
  (3, ⟨.int .i64, 1, 8, [.d (.int .i64 0)], false⟩),
  (4, ⟨.bool, 1, 1, [.d (.bool false)], false⟩),
  (9, ⟨.str, 1, 16, [.d (.str [])], false⟩),
  (22, ⟨.sl 3 1 8, 1, 24, [.nil], false⟩),
  (24, ⟨.sl 78 42 640, 1, 24, [.nil], false⟩),
  (27, ⟨.ptr 92, 1, 8, [.d .nilp], false⟩),
  (29, ⟨.int .i64, 1, 8, [.d (.int .i64 0)], false⟩),
  (36, ⟨.sl 95 2 32, 1, 24, [.nil], false⟩),
  (38, ⟨.st [(0, 9, 1), (1, 9, 1), (2, 3, 1), (3, 3, 1), (4, 36, 1)], 5, 72, [.d (.str []), .d (.str []), .d (.int .i64 0), .d (.int .i64 0), .nil], false⟩),
  (39, ⟨.ptr 102, 1, 8, [.d .nilp], false⟩),
  (47, ⟨.sl 49 3 24, 1, 24, [.nil], false⟩),
  (49, ⟨.st [(0, 3, 1), (1, 3, 1), (2, 3, 1)], 3, 24, [.d (.int .i64 0), .d (.int .i64 0), .d (.int .i64 0)], true⟩),
  (53, ⟨.sl 132 2 32, 1, 24, [.nil], false⟩),
  (55, ⟨.st [(0, 3, 1), (1, 3, 1), (2, 3, 1)], 3, 24, [.d (.int .i64 0), .d (.int .i64 0), .d (.int .i64 0)], true⟩),
  (56, ⟨.sl 134 4 48, 1, 24, [.nil], false⟩),
  (57, ⟨.sl 136 3 48, 1, 24, [.nil], false⟩),
  (58, ⟨.sl 138 2 32, 1, 24, [.nil], false⟩),
  (59, ⟨.sl 140 2 40, 1, 24, [.nil], false⟩),
  (60, ⟨.sl 142 4 56, 1, 24, [.nil], false⟩),
  (61, ⟨.sl 9 1 16, 1, 24, [.nil], false⟩),
  (63, ⟨.st [(0, 9, 1), (1, 3, 1), (2, 53, 1), (3, 55, 3), (6, 56, 1), (7, 57, 1), (8, 58, 1), (9, 22, 1), (10, 59, 1), (11, 59, 1), (12, 60, 1), (13, 61, 1), (14, 9, 1), (15, 9, 1)], 16, 296, [.d (.str []), .d (.int .i64 0), .nil, .d (.int .i64 0), .d (.int .i64 0), .d (.int .i64 0), .nil, .nil, .nil, .nil, .nil, .nil, .nil, .nil, .d (.str []), .d (.str [])], false⟩),
  (64, ⟨.sl 144 3 40, 1, 24, [.nil], false⟩),
  (66, ⟨.st [(0, 9, 1), (1, 53, 1), (2, 64, 1), (3, 4, 1), (4, 55, 3), (7, 3, 1), (8, 3, 1)], 9, 112, [.d (.str []), .nil, .nil, .d (.bool false), .d (.int .i64 0), .d (.int .i64 0), .d (.int .i64 0), .d (.int .i64 0), .d (.int .i64 0)], false⟩),
  (68, ⟨.st [(0, 9, 1), (1, 3, 1), (2, 9, 1), (3, 57, 1), (4, 9, 1)], 5, 80, [.d (.str []), .d (.int .i64 0), .d (.str []), .nil, .d (.str [])], false⟩),
  (70, ⟨.st [(0, 9, 1), (1, 3, 1), (2, 9, 1), (3, 9, 1)], 4, 56, [.d (.str []), .d (.int .i64 0), .d (.str []), .d (.str [])], true⟩),
  (72, ⟨.st [(0, 9, 1), (1, 4, 1)], 2, 24, [.d (.str []), .d (.bool false)], true⟩),
  (74, ⟨.st [(0, 9, 1), (1, 57, 1), (2, 3, 1)], 3, 48, [.d (.str []), .nil, .d (.int .i64 0)], false⟩),
  (76, ⟨.st [(0, 3, 1), (1, 63, 16), (17, 66, 9), (26, 68, 5), (31, 70, 4), (35, 72, 2), (37, 74, 3)], 40, 624, [.d (.int .i64 0), .d (.str []), .d (.int .i64 0), .nil, .d (.int .i64 0), .d (.int .i64 0), .d (.int .i64 0), .nil, .nil, .nil, .nil, .nil, .nil, .nil, .nil, .d (.str []), .d (.str []), .d (.str []), .nil, .nil, .d (.bool false), .d (.int .i64 0), .d (.int .i64 0), .d (.int .i64 0), .d (.int .i64 0), .d (.int .i64 0), .d (.str []), .d (.int .i64 0), .d (.str []), .nil, .d (.str []), .d (.str []), .d (.int .i64 0), .d (.str []), .d (.str []), .d (.str []), .d (.bool false), .d (.str []), .nil, .d (.int .i64 0)], false⟩),
  (78, ⟨.st [(0, 3, 1), (1, 3, 1), (2, 76, 40)], 42, 640, [.d (.int .i64 0), .d (.int .i64 0), .d (.int .i64 0), .d (.str []), .d (.int .i64 0), .nil, .d (.int .i64 0), .d (.int .i64 0), .d (.int .i64 0), .nil, .nil, .nil, .nil, .nil, .nil, .nil, .nil, .d (.str []), .d (.str []), .d (.str []), .nil, .nil, .d (.bool false), .d (.int .i64 0), .d (.int .i64 0), .d (.int .i64 0), .d (.int .i64 0), .d (.int .i64 0), .d (.str []), .d (.int .i64 0), .d (.str []), .nil, .d (.str []), .d (.str []), .d (.int .i64 0), .d (.str []), .d (.str []), .d (.str []), .d (.bool false), .d (.str []), .nil, .d (.int .i64 0)], false⟩),
  (81, ⟨.ptr 86, 1, 8, [.d .nilp], false⟩),
  (84, ⟨.sl 4 1 1, 1, 24, [.nil], false⟩),
  (86, ⟨.st [(0, 22, 1), (1, 84, 1)], 2, 48, [.nil, .nil], false⟩),
  (89, ⟨.st [(0, 3, 1), (1, 4, 1)], 2, 16, [.d (.int .i64 0), .d (.bool false)], true⟩),
  (90, ⟨.arr 7 89 2, 14, 112, [.d (.int .i64 0), .d (.bool false), .d (.int .i64 0), .d (.bool false), .d (.int .i64 0), .d (.bool false), .d (.int .i64 0), .d (.bool false), .d (.int .i64 0), .d (.bool false), .d (.int .i64 0), .d (.bool false), .d (.int .i64 0), .d (.bool false)], false⟩),
  (92, ⟨.st [(0, 90, 14), (14, 4, 1)], 15, 120, [.d (.int .i64 0), .d (.bool false), .d (.int .i64 0), .d (.bool false), .d (.int .i64 0), .d (.bool false), .d (.int .i64 0), .d (.bool false), .d (.int .i64 0), .d (.bool false), .d (.int .i64 0), .d (.bool false), .d (.int .i64 0), .d (.bool false), .d (.bool false)], false⟩),
  (95, ⟨.st [(0, 9, 1), (1, 9, 1)], 2, 32, [.d (.str []), .d (.str [])], true⟩),
  (102, ⟨.st [(0, 38, 5), (5, 3, 1), (6, 3, 1)], 7, 88, [.d (.str []), .d (.str []), .d (.int .i64 0), .d (.int .i64 0), .nil, .d (.int .i64 0), .d (.int .i64 0)], false⟩),
  (104, ⟨.int .u64, 1, 8, [.d (.int .u64 0)], false⟩),
  (105, ⟨.ptr 89, 1, 8, [.d .nilp], false⟩),
  (109, ⟨.func, 1, 8, [.d .nilf], false⟩),
  (111, ⟨.st [(0, 3, 1), (1, 109, 1)], 2, 16, [.d (.int .i64 0), .d .nilf], false⟩),
  (115, ⟨.func, 1, 8, [.d .nilf], false⟩),
  (132, ⟨.st [(0, 9, 1), (1, 9, 1)], 2, 32, [.d (.str []), .d (.str [])], true⟩),
  (134, ⟨.st [(0, 9, 1), (1, 9, 1), (2, 4, 1), (3, 3, 1)], 4, 48, [.d (.str []), .d (.str []), .d (.bool false), .d (.int .i64 0)], true⟩),
  (136, ⟨.st [(0, 9, 1), (1, 3, 1), (2, 61, 1)], 3, 48, [.d (.str []), .d (.int .i64 0), .nil], false⟩),
  (138, ⟨.st [(0, 57, 1), (1, 3, 1)], 2, 32, [.nil, .d (.int .i64 0)], false⟩),
  (140, ⟨.st [(0, 57, 1), (1, 9, 1)], 2, 40, [.nil, .d (.str [])], false⟩),
  (142, ⟨.st [(0, 9, 1), (1, 3, 1), (2, 3, 1), (3, 57, 1)], 4, 56, [.d (.str []), .d (.int .i64 0), .d (.int .i64 0), .nil], false⟩),
  (144, ⟨.st [(0, 9, 1), (1, 9, 1), (2, 3, 1)], 3, 40, [.d (.str []), .d (.str []), .d (.int .i64 0)], true⟩)]
def ty : Nat → Option TI := tabOf tab
theorem tyOk : TyOk Try.prog ty := tyOk_of_tab _ _ (by kernel_rfl)
theorem mixed : Try.prog.follows .mixedOrders = true := by kernel_rfl
theorem ty_3 : ty 3 = some ⟨.int .i64, 1, 8, [.d (.int .i64 0)], false⟩ := by kernel_rfl
theorem ty_4 : ty 4 = some ⟨.bool, 1, 1, [.d (.bool false)], false⟩ := by kernel_rfl
theorem ty_9 : ty 9 = some ⟨.str, 1, 16, [.d (.str [])], false⟩ := by kernel_rfl
theorem ty_22 : ty 22 = some ⟨.sl 3 1 8, 1, 24, [.nil], false⟩ := by kernel_rfl
theorem ty_24 : ty 24 = some ⟨.sl 78 42 640, 1, 24, [.nil], false⟩ := by kernel_rfl
theorem ty_27 : ty 27 = some ⟨.ptr 92, 1, 8, [.d .nilp], false⟩ := by kernel_rfl
theorem ty_29 : ty 29 = some ⟨.int .i64, 1, 8, [.d (.int .i64 0)], false⟩ := by kernel_rfl
theorem ty_36 : ty 36 = some ⟨.sl 95 2 32, 1, 24, [.nil], false⟩ := by kernel_rfl
theorem ty_38 : ty 38 = some ⟨.st [(0, 9, 1), (1, 9, 1), (2, 3, 1), (3, 3, 1), (4, 36, 1)], 5, 72, [.d (.str []), .d (.str []), .d (.int .i64 0), .d (.int .i64 0), .nil], false⟩ := by kernel_rfl
theorem ty_39 : ty 39 = some ⟨.ptr 102, 1, 8, [.d .nilp], false⟩ := by kernel_rfl
theorem ty_47 : ty 47 = some ⟨.sl 49 3 24, 1, 24, [.nil], false⟩ := by kernel_rfl
theorem ty_49 : ty 49 = some ⟨.st [(0, 3, 1), (1, 3, 1), (2, 3, 1)], 3, 24, [.d (.int .i64 0), .d (.int .i64 0), .d (.int .i64 0)], true⟩ := by kernel_rfl
theorem ty_53 : ty 53 = some ⟨.sl 132 2 32, 1, 24, [.nil], false⟩ := by kernel_rfl
theorem ty_55 : ty 55 = some ⟨.st [(0, 3, 1), (1, 3, 1), (2, 3, 1)], 3, 24, [.d (.int .i64 0), .d (.int .i64 0), .d (.int .i64 0)], true⟩ := by kernel_rfl
theorem ty_56 : ty 56 = some ⟨.sl 134 4 48, 1, 24, [.nil], false⟩ := by kernel_rfl
theorem ty_57 : ty 57 = some ⟨.sl 136 3 48, 1, 24, [.nil], false⟩ := by kernel_rfl
theorem ty_58 : ty 58 = some ⟨.sl 138 2 32, 1, 24, [.nil], false⟩ := by kernel_rfl
theorem ty_59 : ty 59 = some ⟨.sl 140 2 40, 1, 24, [.nil], false⟩ := by kernel_rfl
theorem ty_60 : ty 60 = some ⟨.sl 142 4 56, 1, 24, [.nil], false⟩ := by kernel_rfl
theorem ty_61 : ty 61 = some ⟨.sl 9 1 16, 1, 24, [.nil], false⟩ := by kernel_rfl
theorem ty_63 : ty 63 = some ⟨.st [(0, 9, 1), (1, 3, 1), (2, 53, 1), (3, 55, 3), (6, 56, 1), (7, 57, 1), (8, 58, 1), (9, 22, 1), (10, 59, 1), (11, 59, 1), (12, 60, 1), (13, 61, 1), (14, 9, 1), (15, 9, 1)], 16, 296, [.d (.str []), .d (.int .i64 0), .nil, .d (.int .i64 0), .d (.int .i64 0), .d (.int .i64 0), .nil, .nil, .nil, .nil, .nil, .nil, .nil, .nil, .d (.str []), .d (.str [])], false⟩ := by kernel_rfl
theorem ty_64 : ty 64 = some ⟨.sl 144 3 40, 1, 24, [.nil], false⟩ := by kernel_rfl
theorem ty_66 : ty 66 = some ⟨.st [(0, 9, 1), (1, 53, 1), (2, 64, 1), (3, 4, 1), (4, 55, 3), (7, 3, 1), (8, 3, 1)], 9, 112, [.d (.str []), .nil, .nil, .d (.bool false), .d (.int .i64 0), .d (.int .i64 0), .d (.int .i64 0), .d (.int .i64 0), .d (.int .i64 0)], false⟩ := by kernel_rfl
theorem ty_68 : ty 68 = some ⟨.st [(0, 9, 1), (1, 3, 1), (2, 9, 1), (3, 57, 1), (4, 9, 1)], 5, 80, [.d (.str []), .d (.int .i64 0), .d (.str []), .nil, .d (.str [])], false⟩ := by kernel_rfl
theorem ty_70 : ty 70 = some ⟨.st [(0, 9, 1), (1, 3, 1), (2, 9, 1), (3, 9, 1)], 4, 56, [.d (.str []), .d (.int .i64 0), .d (.str []), .d (.str [])], true⟩ := by kernel_rfl
theorem ty_72 : ty 72 = some ⟨.st [(0, 9, 1), (1, 4, 1)], 2, 24, [.d (.str []), .d (.bool false)], true⟩ := by kernel_rfl
theorem ty_74 : ty 74 = some ⟨.st [(0, 9, 1), (1, 57, 1), (2, 3, 1)], 3, 48, [.d (.str []), .nil, .d (.int .i64 0)], false⟩ := by kernel_rfl
theorem ty_76 : ty 76 = some ⟨.st [(0, 3, 1), (1, 63, 16), (17, 66, 9), (26, 68, 5), (31, 70, 4), (35, 72, 2), (37, 74, 3)], 40, 624, [.d (.int .i64 0), .d (.str []), .d (.int .i64 0), .nil, .d (.int .i64 0), .d (.int .i64 0), .d (.int .i64 0), .nil, .nil, .nil, .nil, .nil, .nil, .nil, .nil, .d (.str []), .d (.str []), .d (.str []), .nil, .nil, .d (.bool false), .d (.int .i64 0), .d (.int .i64 0), .d (.int .i64 0), .d (.int .i64 0), .d (.int .i64 0), .d (.str []), .d (.int .i64 0), .d (.str []), .nil, .d (.str []), .d (.str []), .d (.int .i64 0), .d (.str []), .d (.str []), .d (.str []), .d (.bool false), .d (.str []), .nil, .d (.int .i64 0)], false⟩ := by kernel_rfl
theorem ty_78 : ty 78 = some ⟨.st [(0, 3, 1), (1, 3, 1), (2, 76, 40)], 42, 640, [.d (.int .i64 0), .d (.int .i64 0), .d (.int .i64 0), .d (.str []), .d (.int .i64 0), .nil, .d (.int .i64 0), .d (.int .i64 0), .d (.int .i64 0), .nil, .nil, .nil, .nil, .nil, .nil, .nil, .nil, .d (.str []), .d (.str []), .d (.str []), .nil, .nil, .d (.bool false), .d (.int .i64 0), .d (.int .i64 0), .d (.int .i64 0), .d (.int .i64 0), .d (.int .i64 0), .d (.str []), .d (.int .i64 0), .d (.str []), .nil, .d (.str []), .d (.str []), .d (.int .i64 0), .d (.str []), .d (.str []), .d (.str []), .d (.bool false), .d (.str []), .nil, .d (.int .i64 0)], false⟩ := by kernel_rfl
theorem ty_81 : ty 81 = some ⟨.ptr 86, 1, 8, [.d .nilp], false⟩ := by kernel_rfl
theorem ty_84 : ty 84 = some ⟨.sl 4 1 1, 1, 24, [.nil], false⟩ := by kernel_rfl
theorem ty_86 : ty 86 = some ⟨.st [(0, 22, 1), (1, 84, 1)], 2, 48, [.nil, .nil], false⟩ := by kernel_rfl
theorem ty_89 : ty 89 = some ⟨.st [(0, 3, 1), (1, 4, 1)], 2, 16, [.d (.int .i64 0), .d (.bool false)], true⟩ := by kernel_rfl
theorem ty_90 : ty 90 = some ⟨.arr 7 89 2, 14, 112, [.d (.int .i64 0), .d (.bool false), .d (.int .i64 0), .d (.bool false), .d (.int .i64 0), .d (.bool false), .d (.int .i64 0), .d (.bool false), .d (.int .i64 0), .d (.bool false), .d (.int .i64 0), .d (.bool false), .d (.int .i64 0), .d (.bool false)], false⟩ := by kernel_rfl
theorem ty_92 : ty 92 = some ⟨.st [(0, 90, 14), (14, 4, 1)], 15, 120, [.d (.int .i64 0), .d (.bool false), .d (.int .i64 0), .d (.bool false), .d (.int .i64 0), .d (.bool false), .d (.int .i64 0), .d (.bool false), .d (.int .i64 0), .d (.bool false), .d (.int .i64 0), .d (.bool false), .d (.int .i64 0), .d (.bool false), .d (.bool false)], false⟩ := by kernel_rfl
theorem ty_95 : ty 95 = some ⟨.st [(0, 9, 1), (1, 9, 1)], 2, 32, [.d (.str []), .d (.str [])], true⟩ := by kernel_rfl
theorem ty_102 : ty 102 = some ⟨.st [(0, 38, 5), (5, 3, 1), (6, 3, 1)], 7, 88, [.d (.str []), .d (.str []), .d (.int .i64 0), .d (.int .i64 0), .nil, .d (.int .i64 0), .d (.int .i64 0)], false⟩ := by kernel_rfl
theorem ty_104 : ty 104 = some ⟨.int .u64, 1, 8, [.d (.int .u64 0)], false⟩ := by kernel_rfl
theorem ty_105 : ty 105 = some ⟨.ptr 89, 1, 8, [.d .nilp], false⟩ := by kernel_rfl
theorem ty_109 : ty 109 = some ⟨.func, 1, 8, [.d .nilf], false⟩ := by kernel_rfl
theorem ty_111 : ty 111 = some ⟨.st [(0, 3, 1), (1, 109, 1)], 2, 16, [.d (.int .i64 0), .d .nilf], false⟩ := by kernel_rfl
theorem ty_115 : ty 115 = some ⟨.func, 1, 8, [.d .nilf], false⟩ := by kernel_rfl
theorem ty_132 : ty 132 = some ⟨.st [(0, 9, 1), (1, 9, 1)], 2, 32, [.d (.str []), .d (.str [])], true⟩ := by kernel_rfl
theorem ty_134 : ty 134 = some ⟨.st [(0, 9, 1), (1, 9, 1), (2, 4, 1), (3, 3, 1)], 4, 48, [.d (.str []), .d (.str []), .d (.bool false), .d (.int .i64 0)], true⟩ := by kernel_rfl
theorem ty_136 : ty 136 = some ⟨.st [(0, 9, 1), (1, 3, 1), (2, 61, 1)], 3, 48, [.d (.str []), .d (.int .i64 0), .nil], false⟩ := by kernel_rfl
theorem ty_138 : ty 138 = some ⟨.st [(0, 57, 1), (1, 3, 1)], 2, 32, [.nil, .d (.int .i64 0)], false⟩ := by kernel_rfl
theorem ty_140 : ty 140 = some ⟨.st [(0, 57, 1), (1, 9, 1)], 2, 40, [.nil, .d (.str [])], false⟩ := by kernel_rfl
theorem ty_142 : ty 142 = some ⟨.st [(0, 9, 1), (1, 3, 1), (2, 3, 1), (3, 57, 1)], 4, 56, [.d (.str []), .d (.int .i64 0), .d (.int .i64 0), .nil], false⟩ := by kernel_rfl
theorem ty_144 : ty 144 = some ⟨.st [(0, 9, 1), (1, 9, 1), (2, 3, 1)], 3, 40, [.d (.str []), .d (.str []), .d (.int .i64 0)], true⟩ := by kernel_rfl
def tys := And.intro @ty_3 (And.intro @ty_4 (And.intro @ty_9 (And.intro @ty_22 (And.intro @ty_24 (And.intro @ty_27 (And.intro @ty_29 (And.intro @ty_36 (And.intro @ty_38 (And.intro @ty_39 (And.intro @ty_47 (And.intro @ty_49 (And.intro @ty_53 (And.intro @ty_55 (And.intro @ty_56 (And.intro @ty_57 (And.intro @ty_58 (And.intro @ty_59 (And.intro @ty_60 (And.intro @ty_61 (And.intro @ty_63 (And.intro @ty_64 (And.intro @ty_66 (And.intro @ty_68 (And.intro @ty_70 (And.intro @ty_72 (And.intro @ty_74 (And.intro @ty_76 (And.intro @ty_78 (And.intro @ty_81 (And.intro @ty_84 (And.intro @ty_86 (And.intro @ty_89 (And.intro @ty_90 (And.intro @ty_92 (And.intro @ty_95 (And.intro @ty_102 (And.intro @ty_104 (And.intro @ty_105 (And.intro @ty_109 (And.intro @ty_111 (And.intro @ty_115 (And.intro @ty_132 (And.intro @ty_134 (And.intro @ty_136 (And.intro @ty_138 (And.intro @ty_140 (And.intro @ty_142 (@ty_144))))))))))))))))))))))))))))))))))))))))))))))))

/-! 17: stevedore/watch.New (1 parameters) -/
noncomputable def E17 : Env := { ty := ty, call := callOf ([]), news := newsOf [], mode := modeOf [], rows := false, keep := keepOf [(7, [2]), (6, [0, 3, 7]), (5, [0, 3, 7]), (4, [0, 3, 4, 7]), (3, [0, 3, 7, 8]), (2, [0, 3, 7]), (1, [0, 3]), (0, [0])], loops := loopsOf [(3, ([0, 3, 7], []))], boxes := boxesOf [] }
theorem ty17 : (E17).ty = ty := rfl
theorem call17 (f : Nat) (args : List V) (S : St) : (E17).call f args S = callOf ([]) f args S := rfl
theorem nw17 (f : Nat) : (E17).news f = newsOf [] f := rfl
theorem md17 (f : Nat) : (E17).mode f = modeOf [] f := rfl
theorem rw17 : (E17).rows = false := rfl
theorem kp17 (f : Nat) : (E17).keep f = keepOf [(7, [2]), (6, [0, 3, 7]), (5, [0, 3, 7]), (4, [0, 3, 4, 7]), (3, [0, 3, 7, 8]), (2, [0, 3, 7]), (1, [0, 3]), (0, [0])] f := rfl
theorem lp17 (f : Nat) : (E17).loops f = loopsOf [(3, ([0, 3, 7], []))] f := rfl
theorem bx17 (f : Nat) : (E17).boxes f = boxesOf [] f := rfl
noncomputable def v17 : Spec := fnSpec (E17) 0 Try.f17
theorem vv17 (args : List V) (S : St) : v17 args S = fnSpec (E17) 0 Try.f17 args S := rfl
def u17 := And.intro @vv17 (And.intro @ty17 (And.intro @call17 (And.intro @nw17 (And.intro @md17 (And.intro @rw17 (And.intro @kp17 (And.intro @lp17 (@bx17))))))))
theorem ok17 : SoundAt Try.prog 17 (v17) := soundAt_of mixed tyOk rfl (by intro p hp; simp at hp) (f := 17) (fn := Try.f17) (by kernel_rfl) (by kernel_rfl) (by kernel_rfl) _

/-! 16: stevedore/stevedorebase.Among (2 parameters) -/
noncomputable def E16 : Env := { ty := ty, call := callOf ([]), news := newsOf [], mode := modeOf [], rows := false, keep := keepOf [(1, [4]), (0, [0, 1])], loops := loopsOf [], boxes := boxesOf [] }
theorem ty16 : (E16).ty = ty := rfl
theorem call16 (f : Nat) (args : List V) (S : St) : (E16).call f args S = callOf ([]) f args S := rfl
theorem nw16 (f : Nat) : (E16).news f = newsOf [] f := rfl
theorem md16 (f : Nat) : (E16).mode f = modeOf [] f := rfl
theorem rw16 : (E16).rows = false := rfl
theorem kp16 (f : Nat) : (E16).keep f = keepOf [(1, [4]), (0, [0, 1])] f := rfl
theorem lp16 (f : Nat) : (E16).loops f = loopsOf [] f := rfl
theorem bx16 (f : Nat) : (E16).boxes f = boxesOf [] f := rfl
noncomputable def v16 : Spec := fnSpec (E16) 1 Try.f16
theorem vv16 (args : List V) (S : St) : v16 args S = fnSpec (E16) 1 Try.f16 args S := rfl
def u16 := And.intro @vv16 (And.intro @ty16 (And.intro @call16 (And.intro @nw16 (And.intro @md16 (And.intro @rw16 (And.intro @kp16 (And.intro @lp16 (@bx16))))))))
theorem ok16 : SoundAt Try.prog 16 (v16) := soundAt_of mixed tyOk rfl (by intro p hp; simp at hp) (f := 16) (fn := Try.f16) (by kernel_rfl) (by kernel_rfl) (by kernel_rfl) _

/-! 15: stevedore/stevedorelaw13.logged (1 parameters) -/
noncomputable def E15 : Env := { ty := ty, call := callOf ([(16, v16)]), news := newsOf [], mode := modeOf [], rows := false, keep := keepOf [(6, [2]), (4, [0, 3, 4]), (5, [0, 3, 4]), (3, [0, 3, 4, 9]), (2, [0, 3, 4]), (1, [0, 3]), (0, [0])], loops := loopsOf [(3, ([0, 3, 4], [(3, (78, 42))]))], boxes := boxesOf [] }
theorem ty15 : (E15).ty = ty := rfl
theorem call15 (f : Nat) (args : List V) (S : St) : (E15).call f args S = callOf ([(16, v16)]) f args S := rfl
theorem nw15 (f : Nat) : (E15).news f = newsOf [] f := rfl
theorem md15 (f : Nat) : (E15).mode f = modeOf [] f := rfl
theorem rw15 : (E15).rows = false := rfl
theorem kp15 (f : Nat) : (E15).keep f = keepOf [(6, [2]), (4, [0, 3, 4]), (5, [0, 3, 4]), (3, [0, 3, 4, 9]), (2, [0, 3, 4]), (1, [0, 3]), (0, [0])] f := rfl
theorem lp15 (f : Nat) : (E15).loops f = loopsOf [(3, ([0, 3, 4], [(3, (78, 42))]))] f := rfl
theorem bx15 (f : Nat) : (E15).boxes f = boxesOf [] f := rfl
noncomputable def v15 : Spec := fnSpec (E15) 1 Try.f15
theorem vv15 (args : List V) (S : St) : v15 args S = fnSpec (E15) 1 Try.f15 args S := rfl
def u15 := And.intro @vv15 (And.intro @ty15 (And.intro @call15 (And.intro @nw15 (And.intro @md15 (And.intro @rw15 (And.intro @kp15 (And.intro @lp15 (@bx15))))))))
theorem ok15 : SoundAt Try.prog 15 (v15) := soundAt_of mixed tyOk rfl (by intro p hp; simp only [List.cons_append, List.nil_append, List.mem_cons, List.mem_append, List.not_mem_nil, or_false] at hp; rcases hp with rfl <;> first | exact ok16) (f := 15) (fn := Try.f15) (by kernel_rfl) (by kernel_rfl) (by kernel_rfl) _

/-! 41: (*stevedore/watch.Watcher).cursor (2 parameters) -/
noncomputable def E41 : Env := { ty := ty, call := callOf ([]), news := newsOf [], mode := modeOf [], rows := false, keep := keepOf [(5, [4, 5]), (2, [4, 5]), (4, [4, 5]), (3, [0, 1, 16]), (1, [0, 1, 6]), (0, [0, 1])], loops := loopsOf [], boxes := boxesOf [] }
theorem ty41 : (E41).ty = ty := rfl
theorem call41 (f : Nat) (args : List V) (S : St) : (E41).call f args S = callOf ([]) f args S := rfl
theorem nw41 (f : Nat) : (E41).news f = newsOf [] f := rfl
theorem md41 (f : Nat) : (E41).mode f = modeOf [] f := rfl
theorem rw41 : (E41).rows = false := rfl
theorem kp41 (f : Nat) : (E41).keep f = keepOf [(5, [4, 5]), (2, [4, 5]), (4, [4, 5]), (3, [0, 1, 16]), (1, [0, 1, 6]), (0, [0, 1])] f := rfl
theorem lp41 (f : Nat) : (E41).loops f = loopsOf [] f := rfl
theorem bx41 (f : Nat) : (E41).boxes f = boxesOf [] f := rfl
noncomputable def v41 : Spec := fnSpec (E41) 0 Try.f41
theorem vv41 (args : List V) (S : St) : v41 args S = fnSpec (E41) 0 Try.f41 args S := rfl
def u41 := And.intro @vv41 (And.intro @ty41 (And.intro @call41 (And.intro @nw41 (And.intro @md41 (And.intro @rw41 (And.intro @kp41 (And.intro @lp41 (@bx41))))))))
theorem ok41 : SoundAt Try.prog 41 (v41) := soundAt_of mixed tyOk rfl (by intro p hp; simp at hp) (f := 41) (fn := Try.f41) (by kernel_rfl) (by kernel_rfl) (by kernel_rfl) _

/-! 49: (*stevedore/watch.cursor).coming$1 (1 parameters) -/
noncomputable def E49 : Env := { ty := ty, call := callOf ([]), news := newsOf [], mode := modeOf [], rows := false, keep := keepOf [(1, [4]), (0, [1, 2, 3])], loops := loopsOf [], boxes := boxesOf [] }
theorem ty49 : (E49).ty = ty := rfl
theorem call49 (f : Nat) (args : List V) (S : St) : (E49).call f args S = callOf ([]) f args S := rfl
theorem nw49 (f : Nat) : (E49).news f = newsOf [] f := rfl
theorem md49 (f : Nat) : (E49).mode f = modeOf [] f := rfl
theorem rw49 : (E49).rows = false := rfl
theorem kp49 (f : Nat) : (E49).keep f = keepOf [(1, [4]), (0, [1, 2, 3])] f := rfl
theorem lp49 (f : Nat) : (E49).loops f = loopsOf [] f := rfl
theorem bx49 (f : Nat) : (E49).boxes f = boxesOf [] f := rfl
noncomputable def v49 : Spec := fnSpec (E49) 1 Try.f49
theorem vv49 (args : List V) (S : St) : v49 args S = fnSpec (E49) 1 Try.f49 args S := rfl
def u49 := And.intro @vv49 (And.intro @ty49 (And.intro @call49 (And.intro @nw49 (And.intro @md49 (And.intro @rw49 (And.intro @kp49 (And.intro @lp49 (@bx49))))))))
theorem ok49 : SoundAt Try.prog 49 (v49) := soundAt_of mixed tyOk rfl (by intro p hp; simp at hp) (f := 49) (fn := Try.f49) (by kernel_rfl) (by kernel_rfl) (by kernel_rfl) _

/-! 48: stevedore/watch.some[stevedore/api.Change] (3 parameters) -/
noncomputable def E48 (cl : List (Nat × Spec)) : Env := { ty := ty, call := callOf ([] ++ cl), news := newsOf [], mode := modeOf [], rows := false, keep := keepOf [(8, [6]), (7, [1, 2, 7, 10, 11, 12]), (6, [1, 2, 7, 10, 11, 12]), (5, [1, 2, 7, 9, 10, 11, 12, 24]), (4, [1, 2, 7, 9, 10, 11, 12]), (3, [1, 2, 7, 10, 11, 12, 13]), (2, [1, 2, 7, 10, 11, 12]), (1, [0, 1, 2, 7]), (0, [0, 1, 2])], loops := loopsOf [(3, ([1, 2, 7, 10, 11, 12], [(7, (78, 42))]))], boxes := boxesOf [] }
theorem ty48 (cl : List (Nat × Spec)) : (E48 cl).ty = ty := rfl
theorem call48 (cl : List (Nat × Spec)) (f : Nat) (args : List V) (S : St) : (E48 cl).call f args S = callOf ([] ++ cl) f args S := rfl
theorem nw48 (cl : List (Nat × Spec)) (f : Nat) : (E48 cl).news f = newsOf [] f := rfl
theorem md48 (cl : List (Nat × Spec)) (f : Nat) : (E48 cl).mode f = modeOf [] f := rfl
theorem rw48 (cl : List (Nat × Spec)) : (E48 cl).rows = false := rfl
theorem kp48 (cl : List (Nat × Spec)) (f : Nat) : (E48 cl).keep f = keepOf [(8, [6]), (7, [1, 2, 7, 10, 11, 12]), (6, [1, 2, 7, 10, 11, 12]), (5, [1, 2, 7, 9, 10, 11, 12, 24]), (4, [1, 2, 7, 9, 10, 11, 12]), (3, [1, 2, 7, 10, 11, 12, 13]), (2, [1, 2, 7, 10, 11, 12]), (1, [0, 1, 2, 7]), (0, [0, 1, 2])] f := rfl
theorem lp48 (cl : List (Nat × Spec)) (f : Nat) : (E48 cl).loops f = loopsOf [(3, ([1, 2, 7, 10, 11, 12], [(7, (78, 42))]))] f := rfl
theorem bx48 (cl : List (Nat × Spec)) (f : Nat) : (E48 cl).boxes f = boxesOf [] f := rfl
noncomputable def v48 (cl : List (Nat × Spec)) : Spec := fnSpec (E48 cl) 1 Try.f48
theorem vv48 (cl : List (Nat × Spec)) (args : List V) (S : St) : v48 cl args S = fnSpec (E48 cl) 1 Try.f48 args S := rfl
def u48 := And.intro @vv48 (And.intro @ty48 (And.intro @call48 (And.intro @nw48 (And.intro @md48 (And.intro @rw48 (And.intro @kp48 (And.intro @lp48 (@bx48))))))))
theorem ok48 (cl : List (Nat × Spec)) (hcl : ∀ p ∈ cl, SoundAt Try.prog p.1 p.2) : SoundAt Try.prog 48 (v48 cl) := soundAt_of mixed tyOk rfl (by intro p hp; simp only [List.cons_append, List.nil_append, List.mem_cons, List.mem_append, List.not_mem_nil, or_false] at hp; rcases hp with hp <;> first | exact hcl p hp) (f := 48) (fn := Try.f48) (by kernel_rfl) (by kernel_rfl) (by kernel_rfl) _

/-! 42: (*stevedore/watch.cursor).coming (4 parameters) -/
noncomputable def E42 : Env := { ty := ty, call := callOf ([(49, v49), (48, v48 ([(49, v49)]))]), news := newsOf [], mode := modeOf [], rows := false, keep := keepOf [(1, [8]), (0, [2, 3, 4, 5])], loops := loopsOf [], boxes := boxesOf [] }
theorem ty42 : (E42).ty = ty := rfl
theorem call42 (f : Nat) (args : List V) (S : St) : (E42).call f args S = callOf ([(49, v49), (48, v48 ([(49, v49)]))]) f args S := rfl
theorem nw42 (f : Nat) : (E42).news f = newsOf [] f := rfl
theorem md42 (f : Nat) : (E42).mode f = modeOf [] f := rfl
theorem rw42 : (E42).rows = false := rfl
theorem kp42 (f : Nat) : (E42).keep f = keepOf [(1, [8]), (0, [2, 3, 4, 5])] f := rfl
theorem lp42 (f : Nat) : (E42).loops f = loopsOf [] f := rfl
theorem bx42 (f : Nat) : (E42).boxes f = boxesOf [] f := rfl
noncomputable def v42 : Spec := fnSpec (E42) 1 Try.f42
theorem vv42 (args : List V) (S : St) : v42 args S = fnSpec (E42) 1 Try.f42 args S := rfl
def u42 := And.intro @vv42 (And.intro @ty42 (And.intro @call42 (And.intro @nw42 (And.intro @md42 (And.intro @rw42 (And.intro @kp42 (And.intro @lp42 (@bx42))))))))
theorem ok42 : SoundAt Try.prog 42 (v42) := soundAt_of mixed tyOk rfl (by intro p hp; simp only [List.cons_append, List.nil_append, List.mem_cons, List.mem_append, List.not_mem_nil, or_false] at hp; rcases hp with rfl | rfl <;> first | exact ok49 | exact ok48 _ (fun p hp => by simp only [List.cons_append, List.nil_append, List.mem_cons, List.mem_append, List.not_mem_nil, or_false] at hp; rcases hp with rfl <;> first | exact ok49)) (f := 42) (fn := Try.f42) (by kernel_rfl) (by kernel_rfl) (by kernel_rfl) _

/-! 18: (*stevedore/watch.Watcher).Next (4 parameters) -/
noncomputable def E18 : Env := { ty := ty, call := callOf ([(41, v41), (42, v42)]), news := newsOf [], mode := modeOf [], rows := false, keep := keepOf [(11, [8, 9]), (10, [11, 12]), (9, [10, 11, 12, 38]), (8, [10, 11, 12]), (3, [8, 9]), (5, [8, 9]), (7, [8, 9]), (6, [1, 2, 3, 10, 11, 26]), (4, [1, 2, 3, 10, 11, 23]), (2, [1, 2, 3, 10, 11, 19]), (1, [1, 2, 3, 10, 11]), (0, [0, 1, 2, 3])], loops := loopsOf [], boxes := boxesOf [] }
theorem ty18 : (E18).ty = ty := rfl
theorem call18 (f : Nat) (args : List V) (S : St) : (E18).call f args S = callOf ([(41, v41), (42, v42)]) f args S := rfl
theorem nw18 (f : Nat) : (E18).news f = newsOf [] f := rfl
theorem md18 (f : Nat) : (E18).mode f = modeOf [] f := rfl
theorem rw18 : (E18).rows = false := rfl
theorem kp18 (f : Nat) : (E18).keep f = keepOf [(11, [8, 9]), (10, [11, 12]), (9, [10, 11, 12, 38]), (8, [10, 11, 12]), (3, [8, 9]), (5, [8, 9]), (7, [8, 9]), (6, [1, 2, 3, 10, 11, 26]), (4, [1, 2, 3, 10, 11, 23]), (2, [1, 2, 3, 10, 11, 19]), (1, [1, 2, 3, 10, 11]), (0, [0, 1, 2, 3])] f := rfl
theorem lp18 (f : Nat) : (E18).loops f = loopsOf [] f := rfl
theorem bx18 (f : Nat) : (E18).boxes f = boxesOf [] f := rfl
noncomputable def v18 : Spec := fnSpec (E18) 1 Try.f18
theorem vv18 (args : List V) (S : St) : v18 args S = fnSpec (E18) 1 Try.f18 args S := rfl
def u18 := And.intro @vv18 (And.intro @ty18 (And.intro @call18 (And.intro @nw18 (And.intro @md18 (And.intro @rw18 (And.intro @kp18 (And.intro @lp18 (@bx18))))))))
theorem ok18 : SoundAt Try.prog 18 (v18) := soundAt_of mixed tyOk rfl (by intro p hp; simp only [List.cons_append, List.nil_append, List.mem_cons, List.mem_append, List.not_mem_nil, or_false] at hp; rcases hp with rfl | rfl <;> first | exact ok41 | exact ok42) (f := 18) (fn := Try.f18) (by kernel_rfl) (by kernel_rfl) (by kernel_rfl) _

/-! 19: (*stevedore/watch.Watcher).Behind (3 parameters) -/
noncomputable def E19 : Env := { ty := ty, call := callOf ([(41, v41), (42, v42)]), news := newsOf [], mode := modeOf [], rows := false, keep := keepOf [(4, [6, 7]), (3, [6, 7]), (2, [1, 2, 8, 9, 17]), (1, [1, 2, 8, 9]), (0, [0, 1, 2])], loops := loopsOf [], boxes := boxesOf [] }
theorem ty19 : (E19).ty = ty := rfl
theorem call19 (f : Nat) (args : List V) (S : St) : (E19).call f args S = callOf ([(41, v41), (42, v42)]) f args S := rfl
theorem nw19 (f : Nat) : (E19).news f = newsOf [] f := rfl
theorem md19 (f : Nat) : (E19).mode f = modeOf [] f := rfl
theorem rw19 : (E19).rows = false := rfl
theorem kp19 (f : Nat) : (E19).keep f = keepOf [(4, [6, 7]), (3, [6, 7]), (2, [1, 2, 8, 9, 17]), (1, [1, 2, 8, 9]), (0, [0, 1, 2])] f := rfl
theorem lp19 (f : Nat) : (E19).loops f = loopsOf [] f := rfl
theorem bx19 (f : Nat) : (E19).boxes f = boxesOf [] f := rfl
noncomputable def v19 : Spec := fnSpec (E19) 1 Try.f19
theorem vv19 (args : List V) (S : St) : v19 args S = fnSpec (E19) 1 Try.f19 args S := rfl
def u19 := And.intro @vv19 (And.intro @ty19 (And.intro @call19 (And.intro @nw19 (And.intro @md19 (And.intro @rw19 (And.intro @kp19 (And.intro @lp19 (@bx19))))))))
theorem ok19 : SoundAt Try.prog 19 (v19) := soundAt_of mixed tyOk rfl (by intro p hp; simp only [List.cons_append, List.nil_append, List.mem_cons, List.mem_append, List.not_mem_nil, or_false] at hp; rcases hp with rfl | rfl <;> first | exact ok41 | exact ok42) (f := 19) (fn := Try.f19) (by kernel_rfl) (by kernel_rfl) (by kernel_rfl) _

/-! 36: (*stevedore/watch.Watcher).Seen (2 parameters) -/
noncomputable def E36 : Env := { ty := ty, call := callOf ([(41, v41)]), news := newsOf [], mode := modeOf [], rows := false, keep := keepOf [(4, [4, 5]), (3, [4, 5]), (2, [6, 7, 15]), (1, [6, 7]), (0, [0, 1])], loops := loopsOf [], boxes := boxesOf [] }
theorem ty36 : (E36).ty = ty := rfl
theorem call36 (f : Nat) (args : List V) (S : St) : (E36).call f args S = callOf ([(41, v41)]) f args S := rfl
theorem nw36 (f : Nat) : (E36).news f = newsOf [] f := rfl
theorem md36 (f : Nat) : (E36).mode f = modeOf [] f := rfl
theorem rw36 : (E36).rows = false := rfl
theorem kp36 (f : Nat) : (E36).keep f = keepOf [(4, [4, 5]), (3, [4, 5]), (2, [6, 7, 15]), (1, [6, 7]), (0, [0, 1])] f := rfl
theorem lp36 (f : Nat) : (E36).loops f = loopsOf [] f := rfl
theorem bx36 (f : Nat) : (E36).boxes f = boxesOf [] f := rfl
noncomputable def v36 : Spec := fnSpec (E36) 1 Try.f36
theorem vv36 (args : List V) (S : St) : v36 args S = fnSpec (E36) 1 Try.f36 args S := rfl
def u36 := And.intro @vv36 (And.intro @ty36 (And.intro @call36 (And.intro @nw36 (And.intro @md36 (And.intro @rw36 (And.intro @kp36 (And.intro @lp36 (@bx36))))))))
theorem ok36 : SoundAt Try.prog 36 (v36) := soundAt_of mixed tyOk rfl (by intro p hp; simp only [List.cons_append, List.nil_append, List.mem_cons, List.mem_append, List.not_mem_nil, or_false] at hp; rcases hp with rfl <;> first | exact ok41) (f := 36) (fn := Try.f36) (by kernel_rfl) (by kernel_rfl) (by kernel_rfl) _

/-! 14: stevedore/stevedorelaw13.works (0 parameters) -/
noncomputable def E14 : Env := { ty := ty, call := callOf ([(17, v17), (15, v15), (18, v18), (19, v19), (36, v36)]), news := newsOf [(17, 1)], mode := modeOf [], rows := false, keep := keepOf [(9, [0]), (8, [3, 5, 7, 9, 10]), (7, [1, 3, 5, 7]), (6, [1, 2, 3, 5]), (5, [1, 2, 3]), (4, [1, 2]), (3, [0]), (2, [1, 13]), (1, [1]), (0, [])], loops := loopsOf [], boxes := boxesOf [] }
theorem ty14 : (E14).ty = ty := rfl
theorem call14 (f : Nat) (args : List V) (S : St) : (E14).call f args S = callOf ([(17, v17), (15, v15), (18, v18), (19, v19), (36, v36)]) f args S := rfl
theorem nw14 (f : Nat) : (E14).news f = newsOf [(17, 1)] f := rfl
theorem md14 (f : Nat) : (E14).mode f = modeOf [] f := rfl
theorem rw14 : (E14).rows = false := rfl
theorem kp14 (f : Nat) : (E14).keep f = keepOf [(9, [0]), (8, [3, 5, 7, 9, 10]), (7, [1, 3, 5, 7]), (6, [1, 2, 3, 5]), (5, [1, 2, 3]), (4, [1, 2]), (3, [0]), (2, [1, 13]), (1, [1]), (0, [])] f := rfl
theorem lp14 (f : Nat) : (E14).loops f = loopsOf [] f := rfl
theorem bx14 (f : Nat) : (E14).boxes f = boxesOf [] f := rfl
noncomputable def v14 : Spec := fnSpec (E14) 1 Try.f14
theorem vv14 (args : List V) (S : St) : v14 args S = fnSpec (E14) 1 Try.f14 args S := rfl
def u14 := And.intro @vv14 (And.intro @ty14 (And.intro @call14 (And.intro @nw14 (And.intro @md14 (And.intro @rw14 (And.intro @kp14 (And.intro @lp14 (@bx14))))))))
theorem ok14 : SoundAt Try.prog 14 (v14) := soundAt_of mixed tyOk rfl (by intro p hp; simp only [List.cons_append, List.nil_append, List.mem_cons, List.mem_append, List.not_mem_nil, or_false] at hp; rcases hp with rfl | rfl | rfl | rfl | rfl <;> first | exact ok17 | exact ok15 | exact ok18 | exact ok19 | exact ok36) (f := 14) (fn := Try.f14) (by kernel_rfl) (by kernel_rfl) (by kernel_rfl) _

/-! 20: stevedore/stevedorelaw13.same (2 parameters) -/
noncomputable def E20 : Env := { ty := ty, call := callOf ([]), news := newsOf [], mode := modeOf [], rows := false, keep := keepOf [(8, [4]), (5, [0, 1, 5]), (7, [4]), (6, [0, 1, 5, 55]), (4, [0, 1, 5, 14]), (3, [0, 1, 5]), (2, [4]), (1, [0, 1, 10]), (0, [0, 1])], loops := loopsOf [(4, ([0, 1, 5], []))], boxes := boxesOf [] }
theorem ty20 : (E20).ty = ty := rfl
theorem call20 (f : Nat) (args : List V) (S : St) : (E20).call f args S = callOf ([]) f args S := rfl
theorem nw20 (f : Nat) : (E20).news f = newsOf [] f := rfl
theorem md20 (f : Nat) : (E20).mode f = modeOf [] f := rfl
theorem rw20 : (E20).rows = false := rfl
theorem kp20 (f : Nat) : (E20).keep f = keepOf [(8, [4]), (5, [0, 1, 5]), (7, [4]), (6, [0, 1, 5, 55]), (4, [0, 1, 5, 14]), (3, [0, 1, 5]), (2, [4]), (1, [0, 1, 10]), (0, [0, 1])] f := rfl
theorem lp20 (f : Nat) : (E20).loops f = loopsOf [(4, ([0, 1, 5], []))] f := rfl
theorem bx20 (f : Nat) : (E20).boxes f = boxesOf [] f := rfl
noncomputable def v20 : Spec := fnSpec (E20) 1 Try.f20
theorem vv20 (args : List V) (S : St) : v20 args S = fnSpec (E20) 1 Try.f20 args S := rfl
def u20 := And.intro @vv20 (And.intro @ty20 (And.intro @call20 (And.intro @nw20 (And.intro @md20 (And.intro @rw20 (And.intro @kp20 (And.intro @lp20 (@bx20))))))))
theorem ok20 : SoundAt Try.prog 20 (v20) := soundAt_of mixed tyOk rfl (by intro p hp; simp at hp) (f := 20) (fn := Try.f20) (by kernel_rfl) (by kernel_rfl) (by kernel_rfl) _

/-! 3: stevedore/stevedorelaw13.WatchOrder (3 parameters) -/
noncomputable def E3 : Env := { ty := ty, call := callOf ([(14, v14), (15, v15), (16, v16), (17, v17), (18, v18), (19, v19), (20, v20)]), news := newsOf [(17, 1)], mode := modeOf [], rows := false, keep := keepOf [(18, [6]), (17, [9, 13, 14, 15, 16]), (16, [1, 7, 8, 9, 13, 14]), (11, [1, 2, 7, 8, 9, 10]), (15, [1, 2, 7, 8, 9, 10]), (14, [6]), (13, [1, 2, 7, 8, 9, 10, 11, 57]), (12, [1, 2, 7, 8, 9, 10, 11, 12]), (10, [1, 2, 7, 8, 9, 10, 31]), (9, [1, 2, 7, 8, 9, 10]), (8, [1, 2, 7, 8, 9]), (7, [6]), (6, [1, 2, 7, 8, 26]), (5, [1, 2, 7, 8]), (4, [1, 2, 7]), (3, [1, 2, 7]), (2, [6]), (1, [0, 1, 2, 18]), (0, [0, 1, 2])], loops := loopsOf [(10, ([1, 2, 7, 8, 9, 10], [(9, (78, 42))]))], boxes := boxesOf [] }
theorem ty3 : (E3).ty = ty := rfl
theorem call3 (f : Nat) (args : List V) (S : St) : (E3).call f args S = callOf ([(14, v14), (15, v15), (16, v16), (17, v17), (18, v18), (19, v19), (20, v20)]) f args S := rfl
theorem nw3 (f : Nat) : (E3).news f = newsOf [(17, 1)] f := rfl
theorem md3 (f : Nat) : (E3).mode f = modeOf [] f := rfl
theorem rw3 : (E3).rows = false := rfl
theorem kp3 (f : Nat) : (E3).keep f = keepOf [(18, [6]), (17, [9, 13, 14, 15, 16]), (16, [1, 7, 8, 9, 13, 14]), (11, [1, 2, 7, 8, 9, 10]), (15, [1, 2, 7, 8, 9, 10]), (14, [6]), (13, [1, 2, 7, 8, 9, 10, 11, 57]), (12, [1, 2, 7, 8, 9, 10, 11, 12]), (10, [1, 2, 7, 8, 9, 10, 31]), (9, [1, 2, 7, 8, 9, 10]), (8, [1, 2, 7, 8, 9]), (7, [6]), (6, [1, 2, 7, 8, 26]), (5, [1, 2, 7, 8]), (4, [1, 2, 7]), (3, [1, 2, 7]), (2, [6]), (1, [0, 1, 2, 18]), (0, [0, 1, 2])] f := rfl
theorem lp3 (f : Nat) : (E3).loops f = loopsOf [(10, ([1, 2, 7, 8, 9, 10], [(9, (78, 42))]))] f := rfl
theorem bx3 (f : Nat) : (E3).boxes f = boxesOf [] f := rfl
noncomputable def v3 : Spec := fnSpec (E3) 1 Try.f3
theorem vv3 (args : List V) (S : St) : v3 args S = fnSpec (E3) 1 Try.f3 args S := rfl
def u3 := And.intro @vv3 (And.intro @ty3 (And.intro @call3 (And.intro @nw3 (And.intro @md3 (And.intro @rw3 (And.intro @kp3 (And.intro @lp3 (@bx3))))))))
theorem ok3 : SoundAt Try.prog 3 (v3) := soundAt_of mixed tyOk rfl (by intro p hp; simp only [List.cons_append, List.nil_append, List.mem_cons, List.mem_append, List.not_mem_nil, or_false] at hp; rcases hp with rfl | rfl | rfl | rfl | rfl | rfl | rfl <;> first | exact ok14 | exact ok15 | exact ok16 | exact ok17 | exact ok18 | exact ok19 | exact ok20) (f := 3) (fn := Try.f3) (by kernel_rfl) (by kernel_rfl) (by kernel_rfl) _

/-! 4: stevedore/stevedorelaw13.WatchBehind (3 parameters) -/
noncomputable def E4 : Env := { ty := ty, call := callOf ([(14, v14), (15, v15), (16, v16), (17, v17), (19, v19), (18, v18)]), news := newsOf [(17, 1)], mode := modeOf [], rows := false, keep := keepOf [(16, [6]), (10, [1, 2, 7, 8, 9]), (15, [6]), (14, [1, 2, 7, 8, 9, 83]), (13, [1, 2, 7, 8, 9, 10, 12, 13, 14, 15]), (12, [1, 2, 7, 8, 9, 10, 12, 13]), (11, [1, 2, 7, 8, 9, 10]), (9, [1, 2, 7, 8, 9, 29]), (8, [1, 2, 7, 8, 9]), (7, [6]), (6, [1, 2, 7, 8, 25]), (5, [1, 2, 7, 8]), (4, [1, 2, 7]), (3, [1, 2, 7]), (2, [6]), (1, [0, 1, 2, 17]), (0, [0, 1, 2])], loops := loopsOf [(9, ([1, 2, 7, 8, 9], []))], boxes := boxesOf [] }
theorem ty4 : (E4).ty = ty := rfl
theorem call4 (f : Nat) (args : List V) (S : St) : (E4).call f args S = callOf ([(14, v14), (15, v15), (16, v16), (17, v17), (19, v19), (18, v18)]) f args S := rfl
theorem nw4 (f : Nat) : (E4).news f = newsOf [(17, 1)] f := rfl
theorem md4 (f : Nat) : (E4).mode f = modeOf [] f := rfl
theorem rw4 : (E4).rows = false := rfl
theorem kp4 (f : Nat) : (E4).keep f = keepOf [(16, [6]), (10, [1, 2, 7, 8, 9]), (15, [6]), (14, [1, 2, 7, 8, 9, 83]), (13, [1, 2, 7, 8, 9, 10, 12, 13, 14, 15]), (12, [1, 2, 7, 8, 9, 10, 12, 13]), (11, [1, 2, 7, 8, 9, 10]), (9, [1, 2, 7, 8, 9, 29]), (8, [1, 2, 7, 8, 9]), (7, [6]), (6, [1, 2, 7, 8, 25]), (5, [1, 2, 7, 8]), (4, [1, 2, 7]), (3, [1, 2, 7]), (2, [6]), (1, [0, 1, 2, 17]), (0, [0, 1, 2])] f := rfl
theorem lp4 (f : Nat) : (E4).loops f = loopsOf [(9, ([1, 2, 7, 8, 9], []))] f := rfl
theorem bx4 (f : Nat) : (E4).boxes f = boxesOf [] f := rfl
noncomputable def v4 : Spec := fnSpec (E4) 1 Try.f4
theorem vv4 (args : List V) (S : St) : v4 args S = fnSpec (E4) 1 Try.f4 args S := rfl
def u4 := And.intro @vv4 (And.intro @ty4 (And.intro @call4 (And.intro @nw4 (And.intro @md4 (And.intro @rw4 (And.intro @kp4 (And.intro @lp4 (@bx4))))))))
theorem ok4 : SoundAt Try.prog 4 (v4) := soundAt_of mixed tyOk rfl (by intro p hp; simp only [List.cons_append, List.nil_append, List.mem_cons, List.mem_append, List.not_mem_nil, or_false] at hp; rcases hp with rfl | rfl | rfl | rfl | rfl | rfl <;> first | exact ok14 | exact ok15 | exact ok16 | exact ok17 | exact ok19 | exact ok18) (f := 4) (fn := Try.f4) (by kernel_rfl) (by kernel_rfl) (by kernel_rfl) _

/-! 28: (*stevedore/watch.Watcher).Cut (2 parameters) -/
noncomputable def E28 : Env := { ty := ty, call := callOf ([(41, v41)]), news := newsOf [], mode := modeOf [], rows := false, keep := keepOf [(7, [4]), (6, [6]), (3, [4]), (5, [4]), (4, [5, 6, 17]), (2, [5, 6, 13]), (1, [5, 6]), (0, [0, 1])], loops := loopsOf [], boxes := boxesOf [] }
theorem ty28 : (E28).ty = ty := rfl
theorem call28 (f : Nat) (args : List V) (S : St) : (E28).call f args S = callOf ([(41, v41)]) f args S := rfl
theorem nw28 (f : Nat) : (E28).news f = newsOf [] f := rfl
theorem md28 (f : Nat) : (E28).mode f = modeOf [] f := rfl
theorem rw28 : (E28).rows = false := rfl
theorem kp28 (f : Nat) : (E28).keep f = keepOf [(7, [4]), (6, [6]), (3, [4]), (5, [4]), (4, [5, 6, 17]), (2, [5, 6, 13]), (1, [5, 6]), (0, [0, 1])] f := rfl
theorem lp28 (f : Nat) : (E28).loops f = loopsOf [] f := rfl
theorem bx28 (f : Nat) : (E28).boxes f = boxesOf [] f := rfl
noncomputable def v28 : Spec := fnSpec (E28) 1 Try.f28
theorem vv28 (args : List V) (S : St) : v28 args S = fnSpec (E28) 1 Try.f28 args S := rfl
def u28 := And.intro @vv28 (And.intro @ty28 (And.intro @call28 (And.intro @nw28 (And.intro @md28 (And.intro @rw28 (And.intro @kp28 (And.intro @lp28 (@bx28))))))))
theorem ok28 : SoundAt Try.prog 28 (v28) := soundAt_of mixed tyOk rfl (by intro p hp; simp only [List.cons_append, List.nil_append, List.mem_cons, List.mem_append, List.not_mem_nil, or_false] at hp; rcases hp with rfl <;> first | exact ok41) (f := 28) (fn := Try.f28) (by kernel_rfl) (by kernel_rfl) (by kernel_rfl) _

/-! 29: (*stevedore/watch.Watcher).List (3 parameters) -/
noncomputable def E29 : Env := { ty := ty, call := callOf ([(41, v41)]), news := newsOf [], mode := modeOf [], rows := false, keep := keepOf [(7, [6]), (6, [8]), (3, [6]), (5, [6]), (4, [2, 7, 8, 19]), (2, [2, 7, 8, 15]), (1, [2, 7, 8]), (0, [0, 1, 2])], loops := loopsOf [], boxes := boxesOf [] }
theorem ty29 : (E29).ty = ty := rfl
theorem call29 (f : Nat) (args : List V) (S : St) : (E29).call f args S = callOf ([(41, v41)]) f args S := rfl
theorem nw29 (f : Nat) : (E29).news f = newsOf [] f := rfl
theorem md29 (f : Nat) : (E29).mode f = modeOf [] f := rfl
theorem rw29 : (E29).rows = false := rfl
theorem kp29 (f : Nat) : (E29).keep f = keepOf [(7, [6]), (6, [8]), (3, [6]), (5, [6]), (4, [2, 7, 8, 19]), (2, [2, 7, 8, 15]), (1, [2, 7, 8]), (0, [0, 1, 2])] f := rfl
theorem lp29 (f : Nat) : (E29).loops f = loopsOf [] f := rfl
theorem bx29 (f : Nat) : (E29).boxes f = boxesOf [] f := rfl
noncomputable def v29 : Spec := fnSpec (E29) 1 Try.f29
theorem vv29 (args : List V) (S : St) : v29 args S = fnSpec (E29) 1 Try.f29 args S := rfl
def u29 := And.intro @vv29 (And.intro @ty29 (And.intro @call29 (And.intro @nw29 (And.intro @md29 (And.intro @rw29 (And.intro @kp29 (And.intro @lp29 (@bx29))))))))
theorem ok29 : SoundAt Try.prog 29 (v29) := soundAt_of mixed tyOk rfl (by intro p hp; simp only [List.cons_append, List.nil_append, List.mem_cons, List.mem_append, List.not_mem_nil, or_false] at hp; rcases hp with rfl <;> first | exact ok41) (f := 29) (fn := Try.f29) (by kernel_rfl) (by kernel_rfl) (by kernel_rfl) _

/-! 8: stevedore/stevedorelaw13.WatchApart (4 parameters) -/
noncomputable def E8 : Env := { ty := ty, call := callOf ([(14, v14), (15, v15), (16, v16), (17, v17), (18, v18), (20, v20), (28, v28), (29, v29)]), news := newsOf [(17, 1)], mode := modeOf [], rows := false, keep := keepOf [(25, [8]), (12, [1, 2, 3, 9, 10, 11, 12]), (20, [1, 2, 3, 9, 10, 11, 12]), (22, [1, 2, 3, 9, 10, 11, 12]), (24, [1, 2, 3, 9, 10, 11, 12]), (23, [1, 2, 3, 9, 10, 11, 12, 93]), (21, [1, 2, 3, 9, 10, 11, 12, 81, 88]), (19, [1, 2, 3, 9, 10, 11, 12, 81, 82]), (18, [1, 2, 3, 9, 10, 11, 12, 81]), (17, [8]), (16, [1, 2, 3, 9, 10, 11, 12, 75]), (15, [1, 2, 3, 9, 10, 11, 12, 14, 15, 16, 17]), (14, [1, 2, 3, 9, 10, 11, 12, 13, 14, 15]), (13, [1, 2, 3, 9, 10, 11, 12, 13]), (11, [1, 2, 3, 9, 10, 11, 12, 42]), (10, [1, 2, 3, 9, 10, 11, 12]), (9, [8]), (8, [1, 2, 3, 9, 10, 11, 38]), (7, [1, 2, 3, 9, 10, 11]), (6, [8]), (5, [1, 2, 3, 9, 30]), (4, [1, 2, 3, 9]), (3, [1, 2, 3, 9]), (2, [8]), (1, [0, 1, 2, 3, 19]), (0, [0, 1, 2, 3])], loops := loopsOf [(11, ([1, 2, 3, 9, 10, 11, 12], []))], boxes := boxesOf [] }
theorem ty8 : (E8).ty = ty := rfl
theorem call8 (f : Nat) (args : List V) (S : St) : (E8).call f args S = callOf ([(14, v14), (15, v15), (16, v16), (17, v17), (18, v18), (20, v20), (28, v28), (29, v29)]) f args S := rfl
theorem nw8 (f : Nat) : (E8).news f = newsOf [(17, 1)] f := rfl
theorem md8 (f : Nat) : (E8).mode f = modeOf [] f := rfl
theorem rw8 : (E8).rows = false := rfl
theorem kp8 (f : Nat) : (E8).keep f = keepOf [(25, [8]), (12, [1, 2, 3, 9, 10, 11, 12]), (20, [1, 2, 3, 9, 10, 11, 12]), (22, [1, 2, 3, 9, 10, 11, 12]), (24, [1, 2, 3, 9, 10, 11, 12]), (23, [1, 2, 3, 9, 10, 11, 12, 93]), (21, [1, 2, 3, 9, 10, 11, 12, 81, 88]), (19, [1, 2, 3, 9, 10, 11, 12, 81, 82]), (18, [1, 2, 3, 9, 10, 11, 12, 81]), (17, [8]), (16, [1, 2, 3, 9, 10, 11, 12, 75]), (15, [1, 2, 3, 9, 10, 11, 12, 14, 15, 16, 17]), (14, [1, 2, 3, 9, 10, 11, 12, 13, 14, 15]), (13, [1, 2, 3, 9, 10, 11, 12, 13]), (11, [1, 2, 3, 9, 10, 11, 12, 42]), (10, [1, 2, 3, 9, 10, 11, 12]), (9, [8]), (8, [1, 2, 3, 9, 10, 11, 38]), (7, [1, 2, 3, 9, 10, 11]), (6, [8]), (5, [1, 2, 3, 9, 30]), (4, [1, 2, 3, 9]), (3, [1, 2, 3, 9]), (2, [8]), (1, [0, 1, 2, 3, 19]), (0, [0, 1, 2, 3])] f := rfl
theorem lp8 (f : Nat) : (E8).loops f = loopsOf [(11, ([1, 2, 3, 9, 10, 11, 12], []))] f := rfl
theorem bx8 (f : Nat) : (E8).boxes f = boxesOf [] f := rfl
noncomputable def v8 : Spec := fnSpec (E8) 1 Try.f8
theorem vv8 (args : List V) (S : St) : v8 args S = fnSpec (E8) 1 Try.f8 args S := rfl
def u8 := And.intro @vv8 (And.intro @ty8 (And.intro @call8 (And.intro @nw8 (And.intro @md8 (And.intro @rw8 (And.intro @kp8 (And.intro @lp8 (@bx8))))))))
theorem ok8 : SoundAt Try.prog 8 (v8) := soundAt_of mixed tyOk rfl (by intro p hp; simp only [List.cons_append, List.nil_append, List.mem_cons, List.mem_append, List.not_mem_nil, or_false] at hp; rcases hp with rfl | rfl | rfl | rfl | rfl | rfl | rfl | rfl <;> first | exact ok14 | exact ok15 | exact ok16 | exact ok17 | exact ok18 | exact ok20 | exact ok28 | exact ok29) (f := 8) (fn := Try.f8) (by kernel_rfl) (by kernel_rfl) (by kernel_rfl) _

/-! 30: stevedore/stevedoreref13.Rest (3 parameters) -/
noncomputable def E30 : Env := { ty := ty, call := callOf ([]), news := newsOf [], mode := modeOf [], rows := false, keep := keepOf [(7, [6]), (4, [0, 1, 2, 7, 8]), (6, [0, 1, 2, 7, 8]), (5, [0, 1, 2, 7, 8, 32]), (3, [0, 1, 2, 7, 8, 13]), (2, [0, 1, 2, 7, 8]), (1, [0, 1, 2, 7]), (0, [0, 1, 2])], loops := loopsOf [(3, ([0, 1, 2, 7, 8], [(7, (78, 42))]))], boxes := boxesOf [] }
theorem ty30 : (E30).ty = ty := rfl
theorem call30 (f : Nat) (args : List V) (S : St) : (E30).call f args S = callOf ([]) f args S := rfl
theorem nw30 (f : Nat) : (E30).news f = newsOf [] f := rfl
theorem md30 (f : Nat) : (E30).mode f = modeOf [] f := rfl
theorem rw30 : (E30).rows = false := rfl
theorem kp30 (f : Nat) : (E30).keep f = keepOf [(7, [6]), (4, [0, 1, 2, 7, 8]), (6, [0, 1, 2, 7, 8]), (5, [0, 1, 2, 7, 8, 32]), (3, [0, 1, 2, 7, 8, 13]), (2, [0, 1, 2, 7, 8]), (1, [0, 1, 2, 7]), (0, [0, 1, 2])] f := rfl
theorem lp30 (f : Nat) : (E30).loops f = loopsOf [(3, ([0, 1, 2, 7, 8], [(7, (78, 42))]))] f := rfl
theorem bx30 (f : Nat) : (E30).boxes f = boxesOf [] f := rfl
noncomputable def v30 : Spec := fnSpec (E30) 1 Try.f30
theorem vv30 (args : List V) (S : St) : v30 args S = fnSpec (E30) 1 Try.f30 args S := rfl
def u30 := And.intro @vv30 (And.intro @ty30 (And.intro @call30 (And.intro @nw30 (And.intro @md30 (And.intro @rw30 (And.intro @kp30 (And.intro @lp30 (@bx30))))))))
theorem ok30 : SoundAt Try.prog 30 (v30) := soundAt_of mixed tyOk rfl (by intro p hp; simp at hp) (f := 30) (fn := Try.f30) (by kernel_rfl) (by kernel_rfl) (by kernel_rfl) _

/-! 9: stevedore/stevedorelaw13.WatchLists (4 parameters) -/
noncomputable def E9 : Env := { ty := ty, call := callOf ([(14, v14), (15, v15), (16, v16), (17, v17), (18, v18), (28, v28), (29, v29), (30, v30)]), news := newsOf [(17, 1)], mode := modeOf [], rows := false, keep := keepOf [(20, [8]), (17, [1, 3, 9, 11, 12, 13]), (19, [8]), (18, [1, 3, 9, 11, 12, 13, 97]), (16, [1, 3, 9, 11, 12, 13, 78]), (15, [1, 3, 9, 11, 12, 13]), (14, [1, 3, 9, 11, 12]), (13, [8]), (12, [1, 3, 9, 10, 65]), (11, [1, 3, 9, 10, 11, 12]), (10, [8]), (9, [1, 3, 9, 10, 44]), (8, [1, 3, 9, 10]), (7, [8]), (6, [1, 2, 3, 9, 10, 28]), (5, [1, 2, 3, 9, 10]), (4, [1, 2, 3, 9]), (3, [1, 2, 3, 9]), (2, [8]), (1, [0, 1, 2, 3, 15]), (0, [0, 1, 2, 3])], loops := loopsOf [(16, ([1, 3, 9, 11, 12, 13], []))], boxes := boxesOf [] }
theorem ty9 : (E9).ty = ty := rfl
theorem call9 (f : Nat) (args : List V) (S : St) : (E9).call f args S = callOf ([(14, v14), (15, v15), (16, v16), (17, v17), (18, v18), (28, v28), (29, v29), (30, v30)]) f args S := rfl
theorem nw9 (f : Nat) : (E9).news f = newsOf [(17, 1)] f := rfl
theorem md9 (f : Nat) : (E9).mode f = modeOf [] f := rfl
theorem rw9 : (E9).rows = false := rfl
theorem kp9 (f : Nat) : (E9).keep f = keepOf [(20, [8]), (17, [1, 3, 9, 11, 12, 13]), (19, [8]), (18, [1, 3, 9, 11, 12, 13, 97]), (16, [1, 3, 9, 11, 12, 13, 78]), (15, [1, 3, 9, 11, 12, 13]), (14, [1, 3, 9, 11, 12]), (13, [8]), (12, [1, 3, 9, 10, 65]), (11, [1, 3, 9, 10, 11, 12]), (10, [8]), (9, [1, 3, 9, 10, 44]), (8, [1, 3, 9, 10]), (7, [8]), (6, [1, 2, 3, 9, 10, 28]), (5, [1, 2, 3, 9, 10]), (4, [1, 2, 3, 9]), (3, [1, 2, 3, 9]), (2, [8]), (1, [0, 1, 2, 3, 15]), (0, [0, 1, 2, 3])] f := rfl
theorem lp9 (f : Nat) : (E9).loops f = loopsOf [(16, ([1, 3, 9, 11, 12, 13], []))] f := rfl
theorem bx9 (f : Nat) : (E9).boxes f = boxesOf [] f := rfl
noncomputable def v9 : Spec := fnSpec (E9) 1 Try.f9
theorem vv9 (args : List V) (S : St) : v9 args S = fnSpec (E9) 1 Try.f9 args S := rfl
def u9 := And.intro @vv9 (And.intro @ty9 (And.intro @call9 (And.intro @nw9 (And.intro @md9 (And.intro @rw9 (And.intro @kp9 (And.intro @lp9 (@bx9))))))))
theorem ok9 : SoundAt Try.prog 9 (v9) := soundAt_of mixed tyOk rfl (by intro p hp; simp only [List.cons_append, List.nil_append, List.mem_cons, List.mem_append, List.not_mem_nil, or_false] at hp; rcases hp with rfl | rfl | rfl | rfl | rfl | rfl | rfl | rfl <;> first | exact ok14 | exact ok15 | exact ok16 | exact ok17 | exact ok18 | exact ok28 | exact ok29 | exact ok30) (f := 9) (fn := Try.f9) (by kernel_rfl) (by kernel_rfl) (by kernel_rfl) _

/-! 31: stevedore/stevedoreref13.New (1 parameters) -/
noncomputable def E31 : Env := { ty := ty, call := callOf ([]), news := newsOf [], mode := modeOf [], rows := true, keep := keepOf [(7, [2]), (4, [0, 3, 4]), (6, [0, 3, 4]), (5, [0, 3, 4]), (3, [0, 3, 4, 8]), (2, [0, 3, 4]), (1, [0, 3]), (0, [0])], loops := loopsOf [(3, ([0, 3, 4], []))], boxes := boxesOf [] }
theorem ty31 : (E31).ty = ty := rfl
theorem call31 (f : Nat) (args : List V) (S : St) : (E31).call f args S = callOf ([]) f args S := rfl
theorem nw31 (f : Nat) : (E31).news f = newsOf [] f := rfl
theorem md31 (f : Nat) : (E31).mode f = modeOf [] f := rfl
theorem rw31 : (E31).rows = true := rfl
theorem kp31 (f : Nat) : (E31).keep f = keepOf [(7, [2]), (4, [0, 3, 4]), (6, [0, 3, 4]), (5, [0, 3, 4]), (3, [0, 3, 4, 8]), (2, [0, 3, 4]), (1, [0, 3]), (0, [0])] f := rfl
theorem lp31 (f : Nat) : (E31).loops f = loopsOf [(3, ([0, 3, 4], []))] f := rfl
theorem bx31 (f : Nat) : (E31).boxes f = boxesOf [] f := rfl
noncomputable def v31 : Spec := fnSpec (E31) 0 Try.f31
theorem vv31 (args : List V) (S : St) : v31 args S = fnSpec (E31) 0 Try.f31 args S := rfl
def u31 := And.intro @vv31 (And.intro @ty31 (And.intro @call31 (And.intro @nw31 (And.intro @md31 (And.intro @rw31 (And.intro @kp31 (And.intro @lp31 (@bx31))))))))
theorem ok31 : SoundAt Try.prog 31 (v31) := soundAt_of mixed tyOk rfl (by intro p hp; simp at hp) (f := 31) (fn := Try.f31) (by kernel_rfl) (by kernel_rfl) (by kernel_rfl) _

/-! 46: stevedore/stevedoreref13.kind (1 parameters) -/
noncomputable def E46 : Env := { ty := ty, call := callOf ([]), news := newsOf [], mode := modeOf [], rows := false, keep := keepOf [(1, [2]), (0, [0])], loops := loopsOf [], boxes := boxesOf [] }
theorem ty46 : (E46).ty = ty := rfl
theorem call46 (f : Nat) (args : List V) (S : St) : (E46).call f args S = callOf ([]) f args S := rfl
theorem nw46 (f : Nat) : (E46).news f = newsOf [] f := rfl
theorem md46 (f : Nat) : (E46).mode f = modeOf [] f := rfl
theorem rw46 : (E46).rows = false := rfl
theorem kp46 (f : Nat) : (E46).keep f = keepOf [(1, [2]), (0, [0])] f := rfl
theorem lp46 (f : Nat) : (E46).loops f = loopsOf [] f := rfl
theorem bx46 (f : Nat) : (E46).boxes f = boxesOf [] f := rfl
noncomputable def v46 : Spec := fnSpec (E46) 1 Try.f46
theorem vv46 (args : List V) (S : St) : v46 args S = fnSpec (E46) 1 Try.f46 args S := rfl
def u46 := And.intro @vv46 (And.intro @ty46 (And.intro @call46 (And.intro @nw46 (And.intro @md46 (And.intro @rw46 (And.intro @kp46 (And.intro @lp46 (@bx46))))))))
theorem ok46 : SoundAt Try.prog 46 (v46) := soundAt_of mixed tyOk rfl (by intro p hp; simp at hp) (f := 46) (fn := Try.f46) (by kernel_rfl) (by kernel_rfl) (by kernel_rfl) _

/-! 32: (*stevedore/stevedoreref13.Watcher).Next (4 parameters) -/
noncomputable def E32 : Env := { ty := ty, call := callOf ([(46, v46), (30, v30)]), news := newsOf [], mode := modeOf [], rows := false, keep := keepOf [(9, [8, 9]), (8, [10]), (7, [0, 1, 10, 43]), (6, [0, 1, 10]), (5, [0, 1, 2, 10]), (4, [8, 9]), (3, [0, 1, 2, 3, 24]), (2, [8, 9]), (1, [0, 1, 2, 3, 17]), (0, [0, 1, 2, 3])], loops := loopsOf [], boxes := boxesOf [] }
theorem ty32 : (E32).ty = ty := rfl
theorem call32 (f : Nat) (args : List V) (S : St) : (E32).call f args S = callOf ([(46, v46), (30, v30)]) f args S := rfl
theorem nw32 (f : Nat) : (E32).news f = newsOf [] f := rfl
theorem md32 (f : Nat) : (E32).mode f = modeOf [] f := rfl
theorem rw32 : (E32).rows = false := rfl
theorem kp32 (f : Nat) : (E32).keep f = keepOf [(9, [8, 9]), (8, [10]), (7, [0, 1, 10, 43]), (6, [0, 1, 10]), (5, [0, 1, 2, 10]), (4, [8, 9]), (3, [0, 1, 2, 3, 24]), (2, [8, 9]), (1, [0, 1, 2, 3, 17]), (0, [0, 1, 2, 3])] f := rfl
theorem lp32 (f : Nat) : (E32).loops f = loopsOf [] f := rfl
theorem bx32 (f : Nat) : (E32).boxes f = boxesOf [] f := rfl
noncomputable def v32 : Spec := fnSpec (E32) 1 Try.f32
theorem vv32 (args : List V) (S : St) : v32 args S = fnSpec (E32) 1 Try.f32 args S := rfl
def u32 := And.intro @vv32 (And.intro @ty32 (And.intro @call32 (And.intro @nw32 (And.intro @md32 (And.intro @rw32 (And.intro @kp32 (And.intro @lp32 (@bx32))))))))
theorem ok32 : SoundAt Try.prog 32 (v32) := soundAt_of mixed tyOk rfl (by intro p hp; simp only [List.cons_append, List.nil_append, List.mem_cons, List.mem_append, List.not_mem_nil, or_false] at hp; rcases hp with rfl | rfl <;> first | exact ok46 | exact ok30) (f := 32) (fn := Try.f32) (by kernel_rfl) (by kernel_rfl) (by kernel_rfl) _

/-! 33: (*stevedore/stevedoreref13.Watcher).Cut (2 parameters) -/
noncomputable def E33 : Env := { ty := ty, call := callOf ([(46, v46)]), news := newsOf [], mode := modeOf [], rows := false, keep := keepOf [(6, [4]), (5, []), (4, [4]), (3, [0, 1, 14]), (2, [4]), (1, [0, 1, 7]), (0, [0, 1])], loops := loopsOf [], boxes := boxesOf [] }
theorem ty33 : (E33).ty = ty := rfl
theorem call33 (f : Nat) (args : List V) (S : St) : (E33).call f args S = callOf ([(46, v46)]) f args S := rfl
theorem nw33 (f : Nat) : (E33).news f = newsOf [] f := rfl
theorem md33 (f : Nat) : (E33).mode f = modeOf [] f := rfl
theorem rw33 : (E33).rows = false := rfl
theorem kp33 (f : Nat) : (E33).keep f = keepOf [(6, [4]), (5, []), (4, [4]), (3, [0, 1, 14]), (2, [4]), (1, [0, 1, 7]), (0, [0, 1])] f := rfl
theorem lp33 (f : Nat) : (E33).loops f = loopsOf [] f := rfl
theorem bx33 (f : Nat) : (E33).boxes f = boxesOf [] f := rfl
noncomputable def v33 : Spec := fnSpec (E33) 1 Try.f33
theorem vv33 (args : List V) (S : St) : v33 args S = fnSpec (E33) 1 Try.f33 args S := rfl
def u33 := And.intro @vv33 (And.intro @ty33 (And.intro @call33 (And.intro @nw33 (And.intro @md33 (And.intro @rw33 (And.intro @kp33 (And.intro @lp33 (@bx33))))))))
theorem ok33 : SoundAt Try.prog 33 (v33) := soundAt_of mixed tyOk rfl (by intro p hp; simp only [List.cons_append, List.nil_append, List.mem_cons, List.mem_append, List.not_mem_nil, or_false] at hp; rcases hp with rfl <;> first | exact ok46) (f := 33) (fn := Try.f33) (by kernel_rfl) (by kernel_rfl) (by kernel_rfl) _

/-! 34: (*stevedore/stevedoreref13.Watcher).List (3 parameters) -/
noncomputable def E34 : Env := { ty := ty, call := callOf ([(46, v46)]), news := newsOf [], mode := modeOf [], rows := false, keep := keepOf [(4, [6]), (3, []), (2, [6]), (1, [0, 1, 2, 13]), (0, [0, 1, 2])], loops := loopsOf [], boxes := boxesOf [] }
theorem ty34 : (E34).ty = ty := rfl
theorem call34 (f : Nat) (args : List V) (S : St) : (E34).call f args S = callOf ([(46, v46)]) f args S := rfl
theorem nw34 (f : Nat) : (E34).news f = newsOf [] f := rfl
theorem md34 (f : Nat) : (E34).mode f = modeOf [] f := rfl
theorem rw34 : (E34).rows = false := rfl
theorem kp34 (f : Nat) : (E34).keep f = keepOf [(4, [6]), (3, []), (2, [6]), (1, [0, 1, 2, 13]), (0, [0, 1, 2])] f := rfl
theorem lp34 (f : Nat) : (E34).loops f = loopsOf [] f := rfl
theorem bx34 (f : Nat) : (E34).boxes f = boxesOf [] f := rfl
noncomputable def v34 : Spec := fnSpec (E34) 1 Try.f34
theorem vv34 (args : List V) (S : St) : v34 args S = fnSpec (E34) 1 Try.f34 args S := rfl
def u34 := And.intro @vv34 (And.intro @ty34 (And.intro @call34 (And.intro @nw34 (And.intro @md34 (And.intro @rw34 (And.intro @kp34 (And.intro @lp34 (@bx34))))))))
theorem ok34 : SoundAt Try.prog 34 (v34) := soundAt_of mixed tyOk rfl (by intro p hp; simp only [List.cons_append, List.nil_append, List.mem_cons, List.mem_append, List.not_mem_nil, or_false] at hp; rcases hp with rfl <;> first | exact ok46) (f := 34) (fn := Try.f34) (by kernel_rfl) (by kernel_rfl) (by kernel_rfl) _

/-! 35: (*stevedore/watch.Watcher).Clone (1 parameters) -/
noncomputable def E35 : Env := { ty := ty, call := callOf ([]), news := newsOf [], mode := modeOf [], rows := false, keep := keepOf [(4, [2]), (3, [3]), (2, [2]), (1, [0, 12]), (0, [0])], loops := loopsOf [], boxes := boxesOf [] }
theorem ty35 : (E35).ty = ty := rfl
theorem call35 (f : Nat) (args : List V) (S : St) : (E35).call f args S = callOf ([]) f args S := rfl
theorem nw35 (f : Nat) : (E35).news f = newsOf [] f := rfl
theorem md35 (f : Nat) : (E35).mode f = modeOf [] f := rfl
theorem rw35 : (E35).rows = false := rfl
theorem kp35 (f : Nat) : (E35).keep f = keepOf [(4, [2]), (3, [3]), (2, [2]), (1, [0, 12]), (0, [0])] f := rfl
theorem lp35 (f : Nat) : (E35).loops f = loopsOf [] f := rfl
theorem bx35 (f : Nat) : (E35).boxes f = boxesOf [] f := rfl
noncomputable def v35 : Spec := fnSpec (E35) 0 Try.f35
theorem vv35 (args : List V) (S : St) : v35 args S = fnSpec (E35) 0 Try.f35 args S := rfl
def u35 := And.intro @vv35 (And.intro @ty35 (And.intro @call35 (And.intro @nw35 (And.intro @md35 (And.intro @rw35 (And.intro @kp35 (And.intro @lp35 (@bx35))))))))
theorem ok35 : SoundAt Try.prog 35 (v35) := soundAt_of mixed tyOk rfl (by intro p hp; simp at hp) (f := 35) (fn := Try.f35) (by kernel_rfl) (by kernel_rfl) (by kernel_rfl) _

/-! 10: stevedore/stevedorelaw13.WatchPlays (3 parameters) -/
noncomputable def E10 : Env := { ty := ty, call := callOf ([(17, v17), (31, v31), (15, v15), (16, v16), (18, v18), (32, v32), (20, v20), (28, v28), (33, v33), (29, v29), (34, v34), (35, v35), (36, v36), (19, v19), (30, v30), (14, v14)]), news := newsOf [(17, 1), (31, 3), (35, 1)], mode := modeOf [], rows := false, keep := keepOf [(40, [6]), (39, [24, 26]), (38, [7, 9, 24]), (8, [2, 7, 8, 9, 10]), (33, [2, 7, 8, 9, 10, 18]), (37, [6]), (36, [2, 7, 8, 9, 10, 18, 169]), (35, [2, 7, 8, 9, 10, 18, 19, 20, 21, 22]), (34, [2, 7, 8, 9, 10, 18, 19, 20]), (32, [2, 7, 8, 9, 10, 18, 122]), (31, [2, 7, 8, 9, 10, 18]), (30, [6]), (29, [2, 7, 8, 9, 10, 120]), (17, [2, 7, 8, 9, 10, 12]), (16, [2, 7, 8, 9, 10, 13, 14, 15, 16]), (15, [2, 7, 8, 9, 10, 11, 13, 14]), (19, [2, 7, 8, 9, 10, 12]), (21, [2, 7, 8, 9, 10, 12]), (28, [2, 7, 8, 9, 10, 12]), (27, [2, 8, 9, 10, 12, 17]), (26, [2, 7, 8, 9, 10, 12, 17]), (25, [6]), (24, [2, 7, 8, 9, 10, 11, 12, 17, 111]), (23, [2, 7, 8, 9, 10, 11, 12, 17]), (22, [2, 7, 8, 9, 10, 11, 12, 106]), (20, [2, 7, 8, 9, 10, 11, 12, 47, 91]), (18, [2, 7, 8, 9, 10, 11, 12, 47, 80]), (14, [2, 7, 8, 9, 10, 11, 12, 47, 48]), (13, [2, 7, 8, 9, 10, 11, 12, 47, 48]), (12, [2, 7, 8, 9, 10, 11, 12, 47, 48]), (11, [2, 7, 8, 9, 10, 11, 12, 47]), (10, [2, 7, 8, 9, 10, 11, 12]), (9, [2, 7, 8, 9, 10, 11]), (7, [2, 7, 8, 9, 10, 38]), (6, [2, 7, 8, 9, 10]), (5, [2, 7, 8, 9]), (4, [1, 2, 7, 8]), (3, [6]), (2, [0, 1, 2, 7, 30]), (1, [0, 1, 2, 7]), (0, [0, 1, 2])], loops := loopsOf [(32, ([2, 7, 8, 9, 10, 18], [])), (7, ([2, 7, 8, 9, 10], []))], boxes := boxesOf [] }
theorem ty10 : (E10).ty = ty := rfl
theorem call10 (f : Nat) (args : List V) (S : St) : (E10).call f args S = callOf ([(17, v17), (31, v31), (15, v15), (16, v16), (18, v18), (32, v32), (20, v20), (28, v28), (33, v33), (29, v29), (34, v34), (35, v35), (36, v36), (19, v19), (30, v30), (14, v14)]) f args S := rfl
theorem nw10 (f : Nat) : (E10).news f = newsOf [(17, 1), (31, 3), (35, 1)] f := rfl
theorem md10 (f : Nat) : (E10).mode f = modeOf [] f := rfl
theorem rw10 : (E10).rows = false := rfl
theorem kp10 (f : Nat) : (E10).keep f = keepOf [(40, [6]), (39, [24, 26]), (38, [7, 9, 24]), (8, [2, 7, 8, 9, 10]), (33, [2, 7, 8, 9, 10, 18]), (37, [6]), (36, [2, 7, 8, 9, 10, 18, 169]), (35, [2, 7, 8, 9, 10, 18, 19, 20, 21, 22]), (34, [2, 7, 8, 9, 10, 18, 19, 20]), (32, [2, 7, 8, 9, 10, 18, 122]), (31, [2, 7, 8, 9, 10, 18]), (30, [6]), (29, [2, 7, 8, 9, 10, 120]), (17, [2, 7, 8, 9, 10, 12]), (16, [2, 7, 8, 9, 10, 13, 14, 15, 16]), (15, [2, 7, 8, 9, 10, 11, 13, 14]), (19, [2, 7, 8, 9, 10, 12]), (21, [2, 7, 8, 9, 10, 12]), (28, [2, 7, 8, 9, 10, 12]), (27, [2, 8, 9, 10, 12, 17]), (26, [2, 7, 8, 9, 10, 12, 17]), (25, [6]), (24, [2, 7, 8, 9, 10, 11, 12, 17, 111]), (23, [2, 7, 8, 9, 10, 11, 12, 17]), (22, [2, 7, 8, 9, 10, 11, 12, 106]), (20, [2, 7, 8, 9, 10, 11, 12, 47, 91]), (18, [2, 7, 8, 9, 10, 11, 12, 47, 80]), (14, [2, 7, 8, 9, 10, 11, 12, 47, 48]), (13, [2, 7, 8, 9, 10, 11, 12, 47, 48]), (12, [2, 7, 8, 9, 10, 11, 12, 47, 48]), (11, [2, 7, 8, 9, 10, 11, 12, 47]), (10, [2, 7, 8, 9, 10, 11, 12]), (9, [2, 7, 8, 9, 10, 11]), (7, [2, 7, 8, 9, 10, 38]), (6, [2, 7, 8, 9, 10]), (5, [2, 7, 8, 9]), (4, [1, 2, 7, 8]), (3, [6]), (2, [0, 1, 2, 7, 30]), (1, [0, 1, 2, 7]), (0, [0, 1, 2])] f := rfl
theorem lp10 (f : Nat) : (E10).loops f = loopsOf [(32, ([2, 7, 8, 9, 10, 18], [])), (7, ([2, 7, 8, 9, 10], []))] f := rfl
theorem bx10 (f : Nat) : (E10).boxes f = boxesOf [] f := rfl
noncomputable def v10 : Spec := fnSpec (E10) 1 Try.f10
theorem vv10 (args : List V) (S : St) : v10 args S = fnSpec (E10) 1 Try.f10 args S := rfl
def u10 := And.intro @vv10 (And.intro @ty10 (And.intro @call10 (And.intro @nw10 (And.intro @md10 (And.intro @rw10 (And.intro @kp10 (And.intro @lp10 (@bx10))))))))
theorem ok10 : SoundAt Try.prog 10 (v10) := soundAt_of mixed tyOk rfl (by intro p hp; simp only [List.cons_append, List.nil_append, List.mem_cons, List.mem_append, List.not_mem_nil, or_false] at hp; rcases hp with rfl | rfl | rfl | rfl | rfl | rfl | rfl | rfl | rfl | rfl | rfl | rfl | rfl | rfl | rfl | rfl <;> first | exact ok17 | exact ok31 | exact ok15 | exact ok16 | exact ok18 | exact ok32 | exact ok20 | exact ok28 | exact ok33 | exact ok29 | exact ok34 | exact ok35 | exact ok36 | exact ok19 | exact ok30 | exact ok14) (f := 10) (fn := Try.f10) (by kernel_rfl) (by kernel_rfl) (by kernel_rfl) _

/-! 11: stevedore/stevedorelaw13.WatchNone (1 parameters) -/
noncomputable def E11 : Env := { ty := ty, call := callOf ([(14, v14), (18, v18), (36, v36), (19, v19), (28, v28), (29, v29), (35, v35)]), news := newsOf [(35, 1)], mode := modeOf [], rows := false, keep := keepOf [(11, [2]), (10, [3, 4, 6, 8, 10, 12, 14, 16]), (9, [3, 4, 6, 8, 10, 12, 14]), (8, [3, 4, 6, 8, 10, 12]), (7, [3, 4, 6, 8, 10]), (6, [3, 4, 6, 8]), (5, [1, 3, 4, 6]), (4, [1, 3, 4]), (3, [1, 3]), (2, [2]), (1, [1, 18]), (0, [1])], loops := loopsOf [], boxes := boxesOf [] }
theorem ty11 : (E11).ty = ty := rfl
theorem call11 (f : Nat) (args : List V) (S : St) : (E11).call f args S = callOf ([(14, v14), (18, v18), (36, v36), (19, v19), (28, v28), (29, v29), (35, v35)]) f args S := rfl
theorem nw11 (f : Nat) : (E11).news f = newsOf [(35, 1)] f := rfl
theorem md11 (f : Nat) : (E11).mode f = modeOf [] f := rfl
theorem rw11 : (E11).rows = false := rfl
theorem kp11 (f : Nat) : (E11).keep f = keepOf [(11, [2]), (10, [3, 4, 6, 8, 10, 12, 14, 16]), (9, [3, 4, 6, 8, 10, 12, 14]), (8, [3, 4, 6, 8, 10, 12]), (7, [3, 4, 6, 8, 10]), (6, [3, 4, 6, 8]), (5, [1, 3, 4, 6]), (4, [1, 3, 4]), (3, [1, 3]), (2, [2]), (1, [1, 18]), (0, [1])] f := rfl
theorem lp11 (f : Nat) : (E11).loops f = loopsOf [] f := rfl
theorem bx11 (f : Nat) : (E11).boxes f = boxesOf [] f := rfl
noncomputable def v11 : Spec := fnSpec (E11) 1 Try.f11
theorem vv11 (args : List V) (S : St) : v11 args S = fnSpec (E11) 1 Try.f11 args S := rfl
def u11 := And.intro @vv11 (And.intro @ty11 (And.intro @call11 (And.intro @nw11 (And.intro @md11 (And.intro @rw11 (And.intro @kp11 (And.intro @lp11 (@bx11))))))))
theorem ok11 : SoundAt Try.prog 11 (v11) := soundAt_of mixed tyOk rfl (by intro p hp; simp only [List.cons_append, List.nil_append, List.mem_cons, List.mem_append, List.not_mem_nil, or_false] at hp; rcases hp with rfl | rfl | rfl | rfl | rfl | rfl | rfl <;> first | exact ok14 | exact ok18 | exact ok36 | exact ok19 | exact ok28 | exact ok29 | exact ok35) (f := 11) (fn := Try.f11) (by kernel_rfl) (by kernel_rfl) (by kernel_rfl) _

/-! 43: slices.Clone[[]stevedore/api.Pick,stevedore/api.Pick] (1 parameters) -/
noncomputable def E43 : Env := { ty := ty, call := callOf ([]), news := newsOf [], mode := modeOf [], rows := true, keep := keepOf [(3, [2]), (2, [2]), (1, [0, 4]), (0, [0])], loops := loopsOf [], boxes := boxesOf [] }
theorem ty43 : (E43).ty = ty := rfl
theorem call43 (f : Nat) (args : List V) (S : St) : (E43).call f args S = callOf ([]) f args S := rfl
theorem nw43 (f : Nat) : (E43).news f = newsOf [] f := rfl
theorem md43 (f : Nat) : (E43).mode f = modeOf [] f := rfl
theorem rw43 : (E43).rows = true := rfl
theorem kp43 (f : Nat) : (E43).keep f = keepOf [(3, [2]), (2, [2]), (1, [0, 4]), (0, [0])] f := rfl
theorem lp43 (f : Nat) : (E43).loops f = loopsOf [] f := rfl
theorem bx43 (f : Nat) : (E43).boxes f = boxesOf [] f := rfl
noncomputable def wv43 : Spec := fnSpec (E43) 0 Try.f43
theorem vv43 (args : List V) (S : St) : wv43 args S = fnSpec (E43) 0 Try.f43 args S := rfl
def wu43 := And.intro @vv43 (And.intro @ty43 (And.intro @call43 (And.intro @nw43 (And.intro @md43 (And.intro @rw43 (And.intro @kp43 (And.intro @lp43 (@bx43))))))))
theorem wok43 : SoundAt Try.prog 43 (wv43) := soundAt_of mixed tyOk rfl (by intro p hp; simp at hp) (f := 43) (fn := Try.f43) (by kernel_rfl) (by kernel_rfl) (by kernel_rfl) _
theorem cl43_1 (x : D) (r : List D) (hall : (x :: r).all (fun x => x.cells.length == 2) = true) (hlen : (x :: r).length ≤ 2147483648) : wv43 [.d (.sl (x :: r))] [] = some (.sl 0 0 (x :: r).length, [.row 95 2 (x :: r)]) := by
  have hlen' : r.length ≤ 2147483647 := by simp at hlen; omega
  simp only [wu43, Try.f43, ruB, ruP, ru0, ru1, ru2, ru3, ru4, ru5, ru6, ru7, ru8, ru9, ru10, tys, fnSpec, bodyOf, resultsOf, Option.getD_some, ev, evO, Tm.get, Tm.put, clean, keepOf, loopsOf, newsOf, modeOf, boxesOf, callOf, ofValue, argsT, guardOf, guardV, oneOf, head, promote, Tm.refs, Code.first, AObj.live, back, callW, needs, binV, intOp, intCmp, shiftOp, isShift, eqOp, eqT, eqFs, scalarOf, asD, asDs, nilFor, nilOf, unV, convV, convB, bytesOf, extractV, indexV, idxA, idxD, fldA, fldV, ldV, stV, nilV, fnV, isConst, lenOf, countOf, sliceOf, maxV, boolOf, intOf, Env.fields, Env.arr, Env.elem, TD.isAgg, pieceD, pieceV, mkAgg, allD, putCells, D.put, buildV, fillV, arrPlaces, buildSliceV, sliceV, bounds, sliceStr, optInt, appendV, newList, makeSliceV, zeroD, zeroV, clearV, V.scal, V.scal1, D.scal, D.scal1, lent, kBorA, Option.map_some, Option.map_none, Option.bind_some, Option.bind_none, Option.some.injEq, List.map_cons, List.map_nil, List.length_cons, List.length_nil, List.getElem?_cons_zero, List.getElem?_cons_succ, List.getElem?_nil, List.getElem?_toArray, List.drop_succ_cons, List.drop_zero, List.take_succ_cons, List.take_zero, List.append_nil, List.nil_append, List.cons_append, List.set_cons_zero, List.set_cons_succ, List.head?_cons, List.headD_cons, List.isEmpty_nil, List.isEmpty_cons, List.all_nil, List.all_cons, List.take_nil, List.drop_nil, List.toList_toArray, Nat.reduceAdd, Nat.reduceSub, Nat.reduceEqDiff, Nat.reduceLeDiff, Nat.reduceLT, Nat.reduceMul, Nat.reduceBEq, ↓reduceIte, reduceCtorEq, Bool.false_eq_true, Bool.not_true, Bool.not_false, Bool.and_true, Bool.true_and, Bool.and_false, Bool.false_and, Bool.and_self, Bool.true_or, Bool.or_true, decide_true, decide_false, decide_eq_true_eq, decide_eq_false_iff_not, Int.not_lt, Int.not_le, not_true_eq_false, not_false_eq_true, and_self, and_true, true_and, Int.reduceLT, Int.reduceLE, Int.reduceGT, Int.reduceGE, Int.reduceBEq, Int.reduceBNe, Int.reduceEq, Int.reduceNe, Int.reduceAdd, Int.reduceSub, Int.reduceMul, Int.reduceNeg, Int.reduceToNat, ge_iff_le, gt_iff_lt, Bool.not_eq_true', List.cons.injEq, and_false, false_and, decide_not, Bool.not_eq_eq_eq_not, Option.getD_none, Int.cast_ofNat_Int, bne_self_eq_false, beq_self_eq_true, Int.toNat_natCast, List.getElem?_map, List.length_map, kFin, kGc, reached, kIds, nodupB, posOf, List.range_zero, List.range_succ, List.filter_cons, List.filter_nil, List.contains_cons, List.contains_nil, Bool.or_false, Bool.false_or, Bool.or_self, Nat.not_lt_zero, footR, footC, argsC, funC, totalMax, needsMax, padS, List.replicate, List.replicate_zero, List.replicate_succ, checkD, Rec.idle, apartRec, disjB, keysOf, direct, List.range', Array.any_toList, List.any_toArray, List.any_cons, List.any_nil, Nat.add_zero, Nat.zero_add, clone_row, clone_data, -List.all_cons, hall, hlen']
theorem cl43_2 : wv43 [.nil] [] = some (.nil, []) := by
  simp only [wu43, Try.f43, ruB, ruP, ru0, ru1, ru2, ru3, ru4, ru5, ru6, ru7, ru8, ru9, ru10, tys, fnSpec, bodyOf, resultsOf, Option.getD_some, ev, evO, Tm.get, Tm.put, clean, keepOf, loopsOf, newsOf, modeOf, boxesOf, callOf, ofValue, argsT, guardOf, guardV, oneOf, head, promote, Tm.refs, Code.first, AObj.live, back, callW, needs, binV, intOp, intCmp, shiftOp, isShift, eqOp, eqT, eqFs, scalarOf, asD, asDs, nilFor, nilOf, unV, convV, convB, bytesOf, extractV, indexV, idxA, idxD, fldA, fldV, ldV, stV, nilV, fnV, isConst, lenOf, countOf, sliceOf, maxV, boolOf, intOf, Env.fields, Env.arr, Env.elem, TD.isAgg, pieceD, pieceV, mkAgg, allD, putCells, D.put, buildV, fillV, arrPlaces, buildSliceV, sliceV, bounds, sliceStr, optInt, appendV, newList, makeSliceV, zeroD, zeroV, clearV, V.scal, V.scal1, D.scal, D.scal1, lent, kBorA, Option.map_some, Option.map_none, Option.bind_some, Option.bind_none, Option.some.injEq, List.map_cons, List.map_nil, List.length_cons, List.length_nil, List.getElem?_cons_zero, List.getElem?_cons_succ, List.getElem?_nil, List.getElem?_toArray, List.drop_succ_cons, List.drop_zero, List.take_succ_cons, List.take_zero, List.append_nil, List.nil_append, List.cons_append, List.set_cons_zero, List.set_cons_succ, List.head?_cons, List.headD_cons, List.isEmpty_nil, List.isEmpty_cons, List.all_nil, List.all_cons, List.take_nil, List.drop_nil, List.toList_toArray, Nat.reduceAdd, Nat.reduceSub, Nat.reduceEqDiff, Nat.reduceLeDiff, Nat.reduceLT, Nat.reduceMul, Nat.reduceBEq, ↓reduceIte, reduceCtorEq, Bool.false_eq_true, Bool.not_true, Bool.not_false, Bool.and_true, Bool.true_and, Bool.and_false, Bool.false_and, Bool.and_self, Bool.true_or, Bool.or_true, decide_true, decide_false, decide_eq_true_eq, decide_eq_false_iff_not, Int.not_lt, Int.not_le, not_true_eq_false, not_false_eq_true, and_self, and_true, true_and, Int.reduceLT, Int.reduceLE, Int.reduceGT, Int.reduceGE, Int.reduceBEq, Int.reduceBNe, Int.reduceEq, Int.reduceNe, Int.reduceAdd, Int.reduceSub, Int.reduceMul, Int.reduceNeg, Int.reduceToNat, ge_iff_le, gt_iff_lt, Bool.not_eq_true', List.cons.injEq, and_false, false_and, decide_not, Bool.not_eq_eq_eq_not, Option.getD_none, Int.cast_ofNat_Int, bne_self_eq_false, beq_self_eq_true, Int.toNat_natCast, List.getElem?_map, List.length_map, kFin, kGc, reached, kIds, nodupB, posOf, List.range_zero, List.range_succ, List.filter_cons, List.filter_nil, List.contains_cons, List.contains_nil, Bool.or_false, Bool.false_or, Bool.or_self, Nat.not_lt_zero, footR, footC, argsC, funC, totalMax, needsMax, padS, List.replicate, List.replicate_zero, List.replicate_succ, checkD, Rec.idle, apartRec, disjB, keysOf, direct, List.range', Array.any_toList, List.any_toArray, List.any_cons, List.any_nil, Nat.add_zero, Nat.zero_add, clone_row, clone_data]
theorem cl43_3 : wv43 [.emp] [] = some (.sl 0 0 0, [.row 95 2 []]) := by
  simp only [wu43, Try.f43, ruB, ruP, ru0, ru1, ru2, ru3, ru4, ru5, ru6, ru7, ru8, ru9, ru10, tys, fnSpec, bodyOf, resultsOf, Option.getD_some, ev, evO, Tm.get, Tm.put, clean, keepOf, loopsOf, newsOf, modeOf, boxesOf, callOf, ofValue, argsT, guardOf, guardV, oneOf, head, promote, Tm.refs, Code.first, AObj.live, back, callW, needs, binV, intOp, intCmp, shiftOp, isShift, eqOp, eqT, eqFs, scalarOf, asD, asDs, nilFor, nilOf, unV, convV, convB, bytesOf, extractV, indexV, idxA, idxD, fldA, fldV, ldV, stV, nilV, fnV, isConst, lenOf, countOf, sliceOf, maxV, boolOf, intOf, Env.fields, Env.arr, Env.elem, TD.isAgg, pieceD, pieceV, mkAgg, allD, putCells, D.put, buildV, fillV, arrPlaces, buildSliceV, sliceV, bounds, sliceStr, optInt, appendV, newList, makeSliceV, zeroD, zeroV, clearV, V.scal, V.scal1, D.scal, D.scal1, lent, kBorA, Option.map_some, Option.map_none, Option.bind_some, Option.bind_none, Option.some.injEq, List.map_cons, List.map_nil, List.length_cons, List.length_nil, List.getElem?_cons_zero, List.getElem?_cons_succ, List.getElem?_nil, List.getElem?_toArray, List.drop_succ_cons, List.drop_zero, List.take_succ_cons, List.take_zero, List.append_nil, List.nil_append, List.cons_append, List.set_cons_zero, List.set_cons_succ, List.head?_cons, List.headD_cons, List.isEmpty_nil, List.isEmpty_cons, List.all_nil, List.all_cons, List.take_nil, List.drop_nil, List.toList_toArray, Nat.reduceAdd, Nat.reduceSub, Nat.reduceEqDiff, Nat.reduceLeDiff, Nat.reduceLT, Nat.reduceMul, Nat.reduceBEq, ↓reduceIte, reduceCtorEq, Bool.false_eq_true, Bool.not_true, Bool.not_false, Bool.and_true, Bool.true_and, Bool.and_false, Bool.false_and, Bool.and_self, Bool.true_or, Bool.or_true, decide_true, decide_false, decide_eq_true_eq, decide_eq_false_iff_not, Int.not_lt, Int.not_le, not_true_eq_false, not_false_eq_true, and_self, and_true, true_and, Int.reduceLT, Int.reduceLE, Int.reduceGT, Int.reduceGE, Int.reduceBEq, Int.reduceBNe, Int.reduceEq, Int.reduceNe, Int.reduceAdd, Int.reduceSub, Int.reduceMul, Int.reduceNeg, Int.reduceToNat, ge_iff_le, gt_iff_lt, Bool.not_eq_true', List.cons.injEq, and_false, false_and, decide_not, Bool.not_eq_eq_eq_not, Option.getD_none, Int.cast_ofNat_Int, bne_self_eq_false, beq_self_eq_true, Int.toNat_natCast, List.getElem?_map, List.length_map, kFin, kGc, reached, kIds, nodupB, posOf, List.range_zero, List.range_succ, List.filter_cons, List.filter_nil, List.contains_cons, List.contains_nil, Bool.or_false, Bool.false_or, Bool.or_self, Nat.not_lt_zero, footR, footC, argsC, funC, totalMax, needsMax, padS, List.replicate, List.replicate_zero, List.replicate_succ, checkD, Rec.idle, apartRec, disjB, keysOf, direct, List.range', Array.any_toList, List.any_toArray, List.any_cons, List.any_nil, Nat.add_zero, Nat.zero_add, clone_row, clone_data]
theorem cl43_4 (xs : List D) (lo n : Nat) (hn : 0 < n) (hall : ((xs.drop lo).take n).all (fun x => x.cells.length == 2) = true) (hlen : ((xs.drop lo).take n).length = n) (hmax : n ≤ 2147483648) : wv43 [.sl 0 lo n] [.row 95 2 xs] = some (.sl 1 0 n, [.row 95 2 xs, .row 95 2 ((xs.drop lo).take n)]) := by
  generalize hys : ((xs.drop lo).take n) = ys at *
  simp only [wu43, Try.f43, ruB, ruP, ru0, ru1, ru2, ru3, ru4, ru5, ru6, ru7, ru8, ru9, ru10, tys, fnSpec, bodyOf, resultsOf, Option.getD_some, ev, evO, Tm.get, Tm.put, clean, keepOf, loopsOf, newsOf, modeOf, boxesOf, callOf, ofValue, argsT, guardOf, guardV, oneOf, head, promote, Tm.refs, Code.first, AObj.live, back, callW, needs, binV, intOp, intCmp, shiftOp, isShift, eqOp, eqT, eqFs, scalarOf, asD, asDs, nilFor, nilOf, unV, convV, convB, bytesOf, extractV, indexV, idxA, idxD, fldA, fldV, ldV, stV, nilV, fnV, isConst, lenOf, countOf, sliceOf, maxV, boolOf, intOf, Env.fields, Env.arr, Env.elem, TD.isAgg, pieceD, pieceV, mkAgg, allD, putCells, D.put, buildV, fillV, arrPlaces, buildSliceV, sliceV, bounds, sliceStr, optInt, appendV, newList, makeSliceV, zeroD, zeroV, clearV, V.scal, V.scal1, D.scal, D.scal1, lent, kBorA, Option.map_some, Option.map_none, Option.bind_some, Option.bind_none, Option.some.injEq, List.map_cons, List.map_nil, List.length_cons, List.length_nil, List.getElem?_cons_zero, List.getElem?_cons_succ, List.getElem?_nil, List.getElem?_toArray, List.drop_succ_cons, List.drop_zero, List.take_succ_cons, List.take_zero, List.append_nil, List.nil_append, List.cons_append, List.set_cons_zero, List.set_cons_succ, List.head?_cons, List.headD_cons, List.isEmpty_nil, List.isEmpty_cons, List.all_nil, List.all_cons, List.take_nil, List.drop_nil, List.toList_toArray, Nat.reduceAdd, Nat.reduceSub, Nat.reduceEqDiff, Nat.reduceLeDiff, Nat.reduceLT, Nat.reduceMul, Nat.reduceBEq, ↓reduceIte, reduceCtorEq, Bool.false_eq_true, Bool.not_true, Bool.not_false, Bool.and_true, Bool.true_and, Bool.and_false, Bool.false_and, Bool.and_self, Bool.true_or, Bool.or_true, decide_true, decide_false, decide_eq_true_eq, decide_eq_false_iff_not, Int.not_lt, Int.not_le, not_true_eq_false, not_false_eq_true, and_self, and_true, true_and, Int.reduceLT, Int.reduceLE, Int.reduceGT, Int.reduceGE, Int.reduceBEq, Int.reduceBNe, Int.reduceEq, Int.reduceNe, Int.reduceAdd, Int.reduceSub, Int.reduceMul, Int.reduceNeg, Int.reduceToNat, ge_iff_le, gt_iff_lt, Bool.not_eq_true', List.cons.injEq, and_false, false_and, decide_not, Bool.not_eq_eq_eq_not, Option.getD_none, Int.cast_ofNat_Int, bne_self_eq_false, beq_self_eq_true, Int.toNat_natCast, List.getElem?_map, List.length_map, kFin, kGc, reached, kIds, nodupB, posOf, List.range_zero, List.range_succ, List.filter_cons, List.filter_nil, List.contains_cons, List.contains_nil, Bool.or_false, Bool.false_or, Bool.or_self, Nat.not_lt_zero, footR, footC, argsC, funC, totalMax, needsMax, padS, List.replicate, List.replicate_zero, List.replicate_succ, checkD, Rec.idle, apartRec, disjB, keysOf, direct, List.range', Array.any_toList, List.any_toArray, List.any_cons, List.any_nil, Nat.add_zero, Nat.zero_add, clone_row, clone_data, -List.all_cons, hn, hall, hlen, hmax, hys]
theorem cl43_5 (xs : List D) : wv43 [.nil] [.row 95 2 xs] = some (.nil, [.row 95 2 xs]) := by
  simp only [wu43, Try.f43, ruB, ruP, ru0, ru1, ru2, ru3, ru4, ru5, ru6, ru7, ru8, ru9, ru10, tys, fnSpec, bodyOf, resultsOf, Option.getD_some, ev, evO, Tm.get, Tm.put, clean, keepOf, loopsOf, newsOf, modeOf, boxesOf, callOf, ofValue, argsT, guardOf, guardV, oneOf, head, promote, Tm.refs, Code.first, AObj.live, back, callW, needs, binV, intOp, intCmp, shiftOp, isShift, eqOp, eqT, eqFs, scalarOf, asD, asDs, nilFor, nilOf, unV, convV, convB, bytesOf, extractV, indexV, idxA, idxD, fldA, fldV, ldV, stV, nilV, fnV, isConst, lenOf, countOf, sliceOf, maxV, boolOf, intOf, Env.fields, Env.arr, Env.elem, TD.isAgg, pieceD, pieceV, mkAgg, allD, putCells, D.put, buildV, fillV, arrPlaces, buildSliceV, sliceV, bounds, sliceStr, optInt, appendV, newList, makeSliceV, zeroD, zeroV, clearV, V.scal, V.scal1, D.scal, D.scal1, lent, kBorA, Option.map_some, Option.map_none, Option.bind_some, Option.bind_none, Option.some.injEq, List.map_cons, List.map_nil, List.length_cons, List.length_nil, List.getElem?_cons_zero, List.getElem?_cons_succ, List.getElem?_nil, List.getElem?_toArray, List.drop_succ_cons, List.drop_zero, List.take_succ_cons, List.take_zero, List.append_nil, List.nil_append, List.cons_append, List.set_cons_zero, List.set_cons_succ, List.head?_cons, List.headD_cons, List.isEmpty_nil, List.isEmpty_cons, List.all_nil, List.all_cons, List.take_nil, List.drop_nil, List.toList_toArray, Nat.reduceAdd, Nat.reduceSub, Nat.reduceEqDiff, Nat.reduceLeDiff, Nat.reduceLT, Nat.reduceMul, Nat.reduceBEq, ↓reduceIte, reduceCtorEq, Bool.false_eq_true, Bool.not_true, Bool.not_false, Bool.and_true, Bool.true_and, Bool.and_false, Bool.false_and, Bool.and_self, Bool.true_or, Bool.or_true, decide_true, decide_false, decide_eq_true_eq, decide_eq_false_iff_not, Int.not_lt, Int.not_le, not_true_eq_false, not_false_eq_true, and_self, and_true, true_and, Int.reduceLT, Int.reduceLE, Int.reduceGT, Int.reduceGE, Int.reduceBEq, Int.reduceBNe, Int.reduceEq, Int.reduceNe, Int.reduceAdd, Int.reduceSub, Int.reduceMul, Int.reduceNeg, Int.reduceToNat, ge_iff_le, gt_iff_lt, Bool.not_eq_true', List.cons.injEq, and_false, false_and, decide_not, Bool.not_eq_eq_eq_not, Option.getD_none, Int.cast_ofNat_Int, bne_self_eq_false, beq_self_eq_true, Int.toNat_natCast, List.getElem?_map, List.length_map, kFin, kGc, reached, kIds, nodupB, posOf, List.range_zero, List.range_succ, List.filter_cons, List.filter_nil, List.contains_cons, List.contains_nil, Bool.or_false, Bool.false_or, Bool.or_self, Nat.not_lt_zero, footR, footC, argsC, funC, totalMax, needsMax, padS, List.replicate, List.replicate_zero, List.replicate_succ, checkD, Rec.idle, apartRec, disjB, keysOf, direct, List.range', Array.any_toList, List.any_toArray, List.any_cons, List.any_nil, Nat.add_zero, Nat.zero_add, clone_row, clone_data]
theorem cl43_6 (xs : List D) : wv43 [.emp] [.row 95 2 xs] = some (.sl 1 0 0, [.row 95 2 xs, .row 95 2 []]) := by
  simp only [wu43, Try.f43, ruB, ruP, ru0, ru1, ru2, ru3, ru4, ru5, ru6, ru7, ru8, ru9, ru10, tys, fnSpec, bodyOf, resultsOf, Option.getD_some, ev, evO, Tm.get, Tm.put, clean, keepOf, loopsOf, newsOf, modeOf, boxesOf, callOf, ofValue, argsT, guardOf, guardV, oneOf, head, promote, Tm.refs, Code.first, AObj.live, back, callW, needs, binV, intOp, intCmp, shiftOp, isShift, eqOp, eqT, eqFs, scalarOf, asD, asDs, nilFor, nilOf, unV, convV, convB, bytesOf, extractV, indexV, idxA, idxD, fldA, fldV, ldV, stV, nilV, fnV, isConst, lenOf, countOf, sliceOf, maxV, boolOf, intOf, Env.fields, Env.arr, Env.elem, TD.isAgg, pieceD, pieceV, mkAgg, allD, putCells, D.put, buildV, fillV, arrPlaces, buildSliceV, sliceV, bounds, sliceStr, optInt, appendV, newList, makeSliceV, zeroD, zeroV, clearV, V.scal, V.scal1, D.scal, D.scal1, lent, kBorA, Option.map_some, Option.map_none, Option.bind_some, Option.bind_none, Option.some.injEq, List.map_cons, List.map_nil, List.length_cons, List.length_nil, List.getElem?_cons_zero, List.getElem?_cons_succ, List.getElem?_nil, List.getElem?_toArray, List.drop_succ_cons, List.drop_zero, List.take_succ_cons, List.take_zero, List.append_nil, List.nil_append, List.cons_append, List.set_cons_zero, List.set_cons_succ, List.head?_cons, List.headD_cons, List.isEmpty_nil, List.isEmpty_cons, List.all_nil, List.all_cons, List.take_nil, List.drop_nil, List.toList_toArray, Nat.reduceAdd, Nat.reduceSub, Nat.reduceEqDiff, Nat.reduceLeDiff, Nat.reduceLT, Nat.reduceMul, Nat.reduceBEq, ↓reduceIte, reduceCtorEq, Bool.false_eq_true, Bool.not_true, Bool.not_false, Bool.and_true, Bool.true_and, Bool.and_false, Bool.false_and, Bool.and_self, Bool.true_or, Bool.or_true, decide_true, decide_false, decide_eq_true_eq, decide_eq_false_iff_not, Int.not_lt, Int.not_le, not_true_eq_false, not_false_eq_true, and_self, and_true, true_and, Int.reduceLT, Int.reduceLE, Int.reduceGT, Int.reduceGE, Int.reduceBEq, Int.reduceBNe, Int.reduceEq, Int.reduceNe, Int.reduceAdd, Int.reduceSub, Int.reduceMul, Int.reduceNeg, Int.reduceToNat, ge_iff_le, gt_iff_lt, Bool.not_eq_true', List.cons.injEq, and_false, false_and, decide_not, Bool.not_eq_eq_eq_not, Option.getD_none, Int.cast_ofNat_Int, bne_self_eq_false, beq_self_eq_true, Int.toNat_natCast, List.getElem?_map, List.length_map, kFin, kGc, reached, kIds, nodupB, posOf, List.range_zero, List.range_succ, List.filter_cons, List.filter_nil, List.contains_cons, List.contains_nil, Bool.or_false, Bool.false_or, Bool.or_self, Nat.not_lt_zero, footR, footC, argsC, funC, totalMax, needsMax, padS, List.replicate, List.replicate_zero, List.replicate_succ, checkD, Rec.idle, apartRec, disjB, keysOf, direct, List.range', Array.any_toList, List.any_toArray, List.any_cons, List.any_nil, Nat.add_zero, Nat.zero_add, clone_row, clone_data]
noncomputable def v43 : Spec := cloneSpec true 95 2
theorem vc43 (xs : List D) : v43 [.d (.sl xs)] [] = if xs.all (fun x => x.cells.length == 2) then (if xs.length ≤ 2147483648 then some (.sl 0 0 xs.length, [.row 95 2 xs]) else none) else none := rfl
def u43 := @vc43
theorem vcl43 (xs : List D) (h1 : xs.all (fun x => x.cells.length == 2) = true) (h3 : xs.length ≤ 2147483648) : v43 [.sl 0 0 xs.length] [.row 95 2 xs] = some (.sl 1 0 xs.length, [.row 95 2 xs, .row 95 2 xs]) := clone_all true 95 2 xs h1 h3
theorem ok43 : SoundAt Try.prog 43 v43 := clone_sound (rows := true) (e := 95) (sz := 2) wok43 cl43_1 cl43_2 cl43_3 cl43_4 cl43_5 cl43_6

/-! 22: stevedore/task.New (1 parameters) -/
noncomputable def E22 : Env := { ty := ty, call := callOf ([(43, v43)]), news := newsOf [(43, 1)], mode := modeOf [], rows := false, keep := keepOf [(4, [2, 3]), (3, [1]), (2, [2, 3]), (1, [1, 11]), (0, [1])], loops := loopsOf [], boxes := boxesOf [] }
theorem ty22 : (E22).ty = ty := rfl
theorem call22 (f : Nat) (args : List V) (S : St) : (E22).call f args S = callOf ([(43, v43)]) f args S := rfl
theorem nw22 (f : Nat) : (E22).news f = newsOf [(43, 1)] f := rfl
theorem md22 (f : Nat) : (E22).mode f = modeOf [] f := rfl
theorem rw22 : (E22).rows = false := rfl
theorem kp22 (f : Nat) : (E22).keep f = keepOf [(4, [2, 3]), (3, [1]), (2, [2, 3]), (1, [1, 11]), (0, [1])] f := rfl
theorem lp22 (f : Nat) : (E22).loops f = loopsOf [] f := rfl
theorem bx22 (f : Nat) : (E22).boxes f = boxesOf [] f := rfl
noncomputable def v22 : Spec := fnSpec (E22) 0 Try.f22
theorem vv22 (args : List V) (S : St) : v22 args S = fnSpec (E22) 0 Try.f22 args S := rfl
def u22 := And.intro @vv22 (And.intro @ty22 (And.intro @call22 (And.intro @nw22 (And.intro @md22 (And.intro @rw22 (And.intro @kp22 (And.intro @lp22 (@bx22))))))))
theorem ok22 : SoundAt Try.prog 22 (v22) := soundAt_of mixed tyOk rfl (by intro p hp; simp only [List.cons_append, List.nil_append, List.mem_cons, List.mem_append, List.not_mem_nil, or_false] at hp; rcases hp with rfl <;> first | exact ok43) (f := 22) (fn := Try.f22) (by kernel_rfl) (by kernel_rfl) (by kernel_rfl) _

/-! 44: (*stevedore/task.Task).is (1 parameters) -/
noncomputable def E44 : Env := { ty := ty, call := callOf ([]), news := newsOf [], mode := modeOf [], rows := false, keep := keepOf [(1, [2]), (0, [0])], loops := loopsOf [], boxes := boxesOf [] }
theorem ty44 : (E44).ty = ty := rfl
theorem call44 (f : Nat) (args : List V) (S : St) : (E44).call f args S = callOf ([]) f args S := rfl
theorem nw44 (f : Nat) : (E44).news f = newsOf [] f := rfl
theorem md44 (f : Nat) : (E44).mode f = modeOf [] f := rfl
theorem rw44 : (E44).rows = false := rfl
theorem kp44 (f : Nat) : (E44).keep f = keepOf [(1, [2]), (0, [0])] f := rfl
theorem lp44 (f : Nat) : (E44).loops f = loopsOf [] f := rfl
theorem bx44 (f : Nat) : (E44).boxes f = boxesOf [] f := rfl
noncomputable def v44 : Spec := fnSpec (E44) 1 Try.f44
theorem vv44 (args : List V) (S : St) : v44 args S = fnSpec (E44) 1 Try.f44 args S := rfl
def u44 := And.intro @vv44 (And.intro @ty44 (And.intro @call44 (And.intro @nw44 (And.intro @md44 (And.intro @rw44 (And.intro @kp44 (And.intro @lp44 (@bx44))))))))
theorem ok44 : SoundAt Try.prog 44 (v44) := soundAt_of mixed tyOk rfl (by intro p hp; simp at hp) (f := 44) (fn := Try.f44) (by kernel_rfl) (by kernel_rfl) (by kernel_rfl) _

/-! 39: (*stevedore/task.Task).Bind (1 parameters) -/
noncomputable def E39 : Env := { ty := ty, call := callOf ([(44, v44), (43, v43)]), news := newsOf [(43, 1)], mode := modeOf [], rows := false, keep := keepOf [(5, [2]), (4, [2, 3]), (3, [2, 3]), (2, [2]), (1, [0, 2, 6]), (0, [0, 2])], loops := loopsOf [], boxes := boxesOf [] }
theorem ty39 : (E39).ty = ty := rfl
theorem call39 (f : Nat) (args : List V) (S : St) : (E39).call f args S = callOf ([(44, v44), (43, v43)]) f args S := rfl
theorem nw39 (f : Nat) : (E39).news f = newsOf [(43, 1)] f := rfl
theorem md39 (f : Nat) : (E39).mode f = modeOf [] f := rfl
theorem rw39 : (E39).rows = false := rfl
theorem kp39 (f : Nat) : (E39).keep f = keepOf [(5, [2]), (4, [2, 3]), (3, [2, 3]), (2, [2]), (1, [0, 2, 6]), (0, [0, 2])] f := rfl
theorem lp39 (f : Nat) : (E39).loops f = loopsOf [] f := rfl
theorem bx39 (f : Nat) : (E39).boxes f = boxesOf [] f := rfl
noncomputable def v39 : Spec := fnSpec (E39) 0 Try.f39
theorem vv39 (args : List V) (S : St) : v39 args S = fnSpec (E39) 0 Try.f39 args S := rfl
def u39 := And.intro @vv39 (And.intro @ty39 (And.intro @call39 (And.intro @nw39 (And.intro @md39 (And.intro @rw39 (And.intro @kp39 (And.intro @lp39 (@bx39))))))))
theorem ok39 : SoundAt Try.prog 39 (v39) := soundAt_of mixed tyOk rfl (by intro p hp; simp only [List.cons_append, List.nil_append, List.mem_cons, List.mem_append, List.not_mem_nil, or_false] at hp; rcases hp with rfl | rfl <;> first | exact ok44 | exact ok43) (f := 39) (fn := Try.f39) (by kernel_rfl) (by kernel_rfl) (by kernel_rfl) _

/-! 37: (*stevedore/task.Task).Clone (1 parameters) -/
noncomputable def E37 : Env := { ty := ty, call := callOf ([(44, v44), (39, v39)]), news := newsOf [(39, 1)], mode := modeOf [], rows := false, keep := keepOf [(5, [2]), (4, [3]), (3, [0, 3]), (2, [2]), (1, [0, 6]), (0, [0])], loops := loopsOf [], boxes := boxesOf [] }
theorem ty37 : (E37).ty = ty := rfl
theorem call37 (f : Nat) (args : List V) (S : St) : (E37).call f args S = callOf ([(44, v44), (39, v39)]) f args S := rfl
theorem nw37 (f : Nat) : (E37).news f = newsOf [(39, 1)] f := rfl
theorem md37 (f : Nat) : (E37).mode f = modeOf [] f := rfl
theorem rw37 : (E37).rows = false := rfl
theorem kp37 (f : Nat) : (E37).keep f = keepOf [(5, [2]), (4, [3]), (3, [0, 3]), (2, [2]), (1, [0, 6]), (0, [0])] f := rfl
theorem lp37 (f : Nat) : (E37).loops f = loopsOf [] f := rfl
theorem bx37 (f : Nat) : (E37).boxes f = boxesOf [] f := rfl
noncomputable def v37 : Spec := fnSpec (E37) 0 Try.f37
theorem vv37 (args : List V) (S : St) : v37 args S = fnSpec (E37) 0 Try.f37 args S := rfl
def u37 := And.intro @vv37 (And.intro @ty37 (And.intro @call37 (And.intro @nw37 (And.intro @md37 (And.intro @rw37 (And.intro @kp37 (And.intro @lp37 (@bx37))))))))
theorem ok37 : SoundAt Try.prog 37 (v37) := soundAt_of mixed tyOk rfl (by intro p hp; simp only [List.cons_append, List.nil_append, List.mem_cons, List.mem_append, List.not_mem_nil, or_false] at hp; rcases hp with rfl | rfl <;> first | exact ok44 | exact ok39) (f := 37) (fn := Try.f37) (by kernel_rfl) (by kernel_rfl) (by kernel_rfl) _

/-! 23: (*stevedore/task.Task).Over (1 parameters) -/
noncomputable def E23 : Env := { ty := ty, call := callOf ([(44, v44)]), news := newsOf [], mode := modeOf [], rows := false, keep := keepOf [(1, [2]), (0, [0])], loops := loopsOf [], boxes := boxesOf [] }
theorem ty23 : (E23).ty = ty := rfl
theorem call23 (f : Nat) (args : List V) (S : St) : (E23).call f args S = callOf ([(44, v44)]) f args S := rfl
theorem nw23 (f : Nat) : (E23).news f = newsOf [] f := rfl
theorem md23 (f : Nat) : (E23).mode f = modeOf [] f := rfl
theorem rw23 : (E23).rows = false := rfl
theorem kp23 (f : Nat) : (E23).keep f = keepOf [(1, [2]), (0, [0])] f := rfl
theorem lp23 (f : Nat) : (E23).loops f = loopsOf [] f := rfl
theorem bx23 (f : Nat) : (E23).boxes f = boxesOf [] f := rfl
noncomputable def v23 : Spec := fnSpec (E23) 1 Try.f23
theorem vv23 (args : List V) (S : St) : v23 args S = fnSpec (E23) 1 Try.f23 args S := rfl
def u23 := And.intro @vv23 (And.intro @ty23 (And.intro @call23 (And.intro @nw23 (And.intro @md23 (And.intro @rw23 (And.intro @kp23 (And.intro @lp23 (@bx23))))))))
theorem ok23 : SoundAt Try.prog 23 (v23) := soundAt_of mixed tyOk rfl (by intro p hp; simp only [List.cons_append, List.nil_append, List.mem_cons, List.mem_append, List.not_mem_nil, or_false] at hp; rcases hp with rfl <;> first | exact ok44) (f := 23) (fn := Try.f23) (by kernel_rfl) (by kernel_rfl) (by kernel_rfl) _

/-! 50: (*stevedore/task.Task).wait (1 parameters) -/
noncomputable def E50 : Env := { ty := ty, call := callOf ([]), news := newsOf [], mode := modeOf [], rows := false, keep := keepOf [(4, [2]), (3, [2]), (2, [14]), (1, [0]), (0, [0])], loops := loopsOf [], boxes := boxesOf [] }
theorem ty50 : (E50).ty = ty := rfl
theorem call50 (f : Nat) (args : List V) (S : St) : (E50).call f args S = callOf ([]) f args S := rfl
theorem nw50 (f : Nat) : (E50).news f = newsOf [] f := rfl
theorem md50 (f : Nat) : (E50).mode f = modeOf [] f := rfl
theorem rw50 : (E50).rows = false := rfl
theorem kp50 (f : Nat) : (E50).keep f = keepOf [(4, [2]), (3, [2]), (2, [14]), (1, [0]), (0, [0])] f := rfl
theorem lp50 (f : Nat) : (E50).loops f = loopsOf [] f := rfl
theorem bx50 (f : Nat) : (E50).boxes f = boxesOf [] f := rfl
noncomputable def v50 : Spec := fnSpec (E50) 1 Try.f50
theorem vv50 (args : List V) (S : St) : v50 args S = fnSpec (E50) 1 Try.f50 args S := rfl
def u50 := And.intro @vv50 (And.intro @ty50 (And.intro @call50 (And.intro @nw50 (And.intro @md50 (And.intro @rw50 (And.intro @kp50 (And.intro @lp50 (@bx50))))))))
theorem ok50 : SoundAt Try.prog 50 (v50) := soundAt_of mixed tyOk rfl (by intro p hp; simp at hp) (f := 50) (fn := Try.f50) (by kernel_rfl) (by kernel_rfl) (by kernel_rfl) _

/-! 51: stevedore/task.table$1 (1 parameters) -/
noncomputable def E51 : Env := { ty := ty, call := callOf ([]), news := newsOf [], mode := modeOf [], rows := false, keep := keepOf [(1, [2]), (0, [])], loops := loopsOf [], boxes := boxesOf [] }
theorem ty51 : (E51).ty = ty := rfl
theorem call51 (f : Nat) (args : List V) (S : St) : (E51).call f args S = callOf ([]) f args S := rfl
theorem nw51 (f : Nat) : (E51).news f = newsOf [] f := rfl
theorem md51 (f : Nat) : (E51).mode f = modeOf [] f := rfl
theorem rw51 : (E51).rows = false := rfl
theorem kp51 (f : Nat) : (E51).keep f = keepOf [(1, [2]), (0, [])] f := rfl
theorem lp51 (f : Nat) : (E51).loops f = loopsOf [] f := rfl
theorem bx51 (f : Nat) : (E51).boxes f = boxesOf [] f := rfl
noncomputable def v51 : Spec := fnSpec (E51) 1 Try.f51
theorem vv51 (args : List V) (S : St) : v51 args S = fnSpec (E51) 1 Try.f51 args S := rfl
def u51 := And.intro @vv51 (And.intro @ty51 (And.intro @call51 (And.intro @nw51 (And.intro @md51 (And.intro @rw51 (And.intro @kp51 (And.intro @lp51 (@bx51))))))))
theorem ok51 : SoundAt Try.prog 51 (v51) := soundAt_of mixed tyOk rfl (by intro p hp; simp at hp) (f := 51) (fn := Try.f51) (by kernel_rfl) (by kernel_rfl) (by kernel_rfl) _

/-! 45: stevedore/task.table (1 parameters) -/
noncomputable def E45 : Env := { ty := ty, call := callOf ([(50, v50), (51, v51)]), news := newsOf [], mode := modeOf [], rows := false, keep := keepOf [(3, [2]), (2, [2]), (1, [2, 4]), (0, [0, 2])], loops := loopsOf [], boxes := boxesOf [] }
theorem ty45 : (E45).ty = ty := rfl
theorem call45 (f : Nat) (args : List V) (S : St) : (E45).call f args S = callOf ([(50, v50), (51, v51)]) f args S := rfl
theorem nw45 (f : Nat) : (E45).news f = newsOf [] f := rfl
theorem md45 (f : Nat) : (E45).mode f = modeOf [] f := rfl
theorem rw45 : (E45).rows = false := rfl
theorem kp45 (f : Nat) : (E45).keep f = keepOf [(3, [2]), (2, [2]), (1, [2, 4]), (0, [0, 2])] f := rfl
theorem lp45 (f : Nat) : (E45).loops f = loopsOf [] f := rfl
theorem bx45 (f : Nat) : (E45).boxes f = boxesOf [] f := rfl
noncomputable def v45 : Spec := fnSpec (E45) 1 Try.f45
theorem vv45 (args : List V) (S : St) : v45 args S = fnSpec (E45) 1 Try.f45 args S := rfl
def u45 := And.intro @vv45 (And.intro @ty45 (And.intro @call45 (And.intro @nw45 (And.intro @md45 (And.intro @rw45 (And.intro @kp45 (And.intro @lp45 (@bx45))))))))
theorem ok45 : SoundAt Try.prog 45 (v45) := soundAt_of mixed tyOk rfl (by intro p hp; simp only [List.cons_append, List.nil_append, List.mem_cons, List.mem_append, List.not_mem_nil, or_false] at hp; rcases hp with rfl | rfl <;> first | exact ok50 | exact ok51) (f := 45) (fn := Try.f45) (by kernel_rfl) (by kernel_rfl) (by kernel_rfl) _

/-! 24: (*stevedore/task.Task).Step (2 parameters) -/
noncomputable def E24 : Env := { ty := ty, call := callOf ([(44, v44), (23, v23), (45, v45), (50, v50), (51, v51)]), news := newsOf [], mode := modeOf [], rows := false, keep := keepOf [(15, [4, 5]), (12, [0]), (14, [0]), (9, [0]), (13, [0, 6, 38]), (11, [0, 6, 26, 30]), (10, [0, 6, 26, 30]), (8, [0, 6, 26]), (7, [0, 1, 6]), (2, [4, 5]), (4, [4, 5]), (6, [4, 5]), (5, [0, 1, 18]), (3, [0, 1, 11]), (1, [0, 1, 7]), (0, [0, 1])], loops := loopsOf [], boxes := boxesOf [] }
theorem ty24 : (E24).ty = ty := rfl
theorem call24 (f : Nat) (args : List V) (S : St) : (E24).call f args S = callOf ([(44, v44), (23, v23), (45, v45), (50, v50), (51, v51)]) f args S := rfl
theorem nw24 (f : Nat) : (E24).news f = newsOf [] f := rfl
theorem md24 (f : Nat) : (E24).mode f = modeOf [] f := rfl
theorem rw24 : (E24).rows = false := rfl
theorem kp24 (f : Nat) : (E24).keep f = keepOf [(15, [4, 5]), (12, [0]), (14, [0]), (9, [0]), (13, [0, 6, 38]), (11, [0, 6, 26, 30]), (10, [0, 6, 26, 30]), (8, [0, 6, 26]), (7, [0, 1, 6]), (2, [4, 5]), (4, [4, 5]), (6, [4, 5]), (5, [0, 1, 18]), (3, [0, 1, 11]), (1, [0, 1, 7]), (0, [0, 1])] f := rfl
theorem lp24 (f : Nat) : (E24).loops f = loopsOf [] f := rfl
theorem bx24 (f : Nat) : (E24).boxes f = boxesOf [] f := rfl
noncomputable def v24 : Spec := fnSpec (E24) 1 Try.f24
theorem vv24 (args : List V) (S : St) : v24 args S = fnSpec (E24) 1 Try.f24 args S := rfl
def u24 := And.intro @vv24 (And.intro @ty24 (And.intro @call24 (And.intro @nw24 (And.intro @md24 (And.intro @rw24 (And.intro @kp24 (And.intro @lp24 (@bx24))))))))
theorem ok24 : SoundAt Try.prog 24 (v24) := soundAt_of mixed tyOk rfl (by intro p hp; simp only [List.cons_append, List.nil_append, List.mem_cons, List.mem_append, List.not_mem_nil, or_false] at hp; rcases hp with rfl | rfl | rfl | rfl | rfl <;> first | exact ok44 | exact ok23 | exact ok45 | exact ok50 | exact ok51) (f := 24) (fn := Try.f24) (by kernel_rfl) (by kernel_rfl) (by kernel_rfl) _

/-! 26: (*stevedore/task.Task).Drop (1 parameters) -/
noncomputable def E26 : Env := { ty := ty, call := callOf ([(44, v44), (23, v23)]), news := newsOf [], mode := modeOf [], rows := false, keep := keepOf [(6, [2]), (5, []), (2, [2]), (4, [2]), (3, [0, 7]), (1, [0, 3]), (0, [0])], loops := loopsOf [], boxes := boxesOf [] }
theorem ty26 : (E26).ty = ty := rfl
theorem call26 (f : Nat) (args : List V) (S : St) : (E26).call f args S = callOf ([(44, v44), (23, v23)]) f args S := rfl
theorem nw26 (f : Nat) : (E26).news f = newsOf [] f := rfl
theorem md26 (f : Nat) : (E26).mode f = modeOf [] f := rfl
theorem rw26 : (E26).rows = false := rfl
theorem kp26 (f : Nat) : (E26).keep f = keepOf [(6, [2]), (5, []), (2, [2]), (4, [2]), (3, [0, 7]), (1, [0, 3]), (0, [0])] f := rfl
theorem lp26 (f : Nat) : (E26).loops f = loopsOf [] f := rfl
theorem bx26 (f : Nat) : (E26).boxes f = boxesOf [] f := rfl
noncomputable def v26 : Spec := fnSpec (E26) 1 Try.f26
theorem vv26 (args : List V) (S : St) : v26 args S = fnSpec (E26) 1 Try.f26 args S := rfl
def u26 := And.intro @vv26 (And.intro @ty26 (And.intro @call26 (And.intro @nw26 (And.intro @md26 (And.intro @rw26 (And.intro @kp26 (And.intro @lp26 (@bx26))))))))
theorem ok26 : SoundAt Try.prog 26 (v26) := soundAt_of mixed tyOk rfl (by intro p hp; simp only [List.cons_append, List.nil_append, List.mem_cons, List.mem_append, List.not_mem_nil, or_false] at hp; rcases hp with rfl | rfl <;> first | exact ok44 | exact ok23) (f := 26) (fn := Try.f26) (by kernel_rfl) (by kernel_rfl) (by kernel_rfl) _

/-! 38: stevedore/stevedoreref20.Next (3 parameters) -/
noncomputable def E38 : Env := { ty := ty, call := callOf ([]), news := newsOf [], mode := modeOf [], rows := false, keep := keepOf [(15, [6, 7, 8]), (10, [6, 7, 8]), (9, [6, 7, 8]), (8, [1, 30]), (7, [6, 7, 8]), (6, [1, 2, 26]), (5, [6, 7, 8]), (4, [1, 2, 19]), (14, [6, 7, 8]), (13, [6, 7, 8]), (12, [1, 36]), (11, [0, 1, 9, 34]), (3, [0, 1, 2, 9, 16, 17]), (2, [0, 1, 2, 9, 16]), (1, [0, 1, 2, 9]), (0, [0, 1, 2])], loops := loopsOf [], boxes := boxesOf [] }
theorem ty38 : (E38).ty = ty := rfl
theorem call38 (f : Nat) (args : List V) (S : St) : (E38).call f args S = callOf ([]) f args S := rfl
theorem nw38 (f : Nat) : (E38).news f = newsOf [] f := rfl
theorem md38 (f : Nat) : (E38).mode f = modeOf [] f := rfl
theorem rw38 : (E38).rows = false := rfl
theorem kp38 (f : Nat) : (E38).keep f = keepOf [(15, [6, 7, 8]), (10, [6, 7, 8]), (9, [6, 7, 8]), (8, [1, 30]), (7, [6, 7, 8]), (6, [1, 2, 26]), (5, [6, 7, 8]), (4, [1, 2, 19]), (14, [6, 7, 8]), (13, [6, 7, 8]), (12, [1, 36]), (11, [0, 1, 9, 34]), (3, [0, 1, 2, 9, 16, 17]), (2, [0, 1, 2, 9, 16]), (1, [0, 1, 2, 9]), (0, [0, 1, 2])] f := rfl
theorem lp38 (f : Nat) : (E38).loops f = loopsOf [] f := rfl
theorem bx38 (f : Nat) : (E38).boxes f = boxesOf [] f := rfl
noncomputable def v38 : Spec := fnSpec (E38) 1 Try.f38
theorem vv38 (args : List V) (S : St) : v38 args S = fnSpec (E38) 1 Try.f38 args S := rfl
def u38 := And.intro @vv38 (And.intro @ty38 (And.intro @call38 (And.intro @nw38 (And.intro @md38 (And.intro @rw38 (And.intro @kp38 (And.intro @lp38 (@bx38))))))))
theorem ok38 : SoundAt Try.prog 38 (v38) := soundAt_of mixed tyOk rfl (by intro p hp; simp at hp) (f := 38) (fn := Try.f38) (by kernel_rfl) (by kernel_rfl) (by kernel_rfl) _

/-! 25: (*stevedore/task.Task).State (1 parameters) -/
noncomputable def E25 : Env := { ty := ty, call := callOf ([(44, v44)]), news := newsOf [], mode := modeOf [], rows := false, keep := keepOf [(3, [2]), (2, [2]), (1, [0, 5]), (0, [0])], loops := loopsOf [], boxes := boxesOf [] }
theorem ty25 : (E25).ty = ty := rfl
theorem call25 (f : Nat) (args : List V) (S : St) : (E25).call f args S = callOf ([(44, v44)]) f args S := rfl
theorem nw25 (f : Nat) : (E25).news f = newsOf [] f := rfl
theorem md25 (f : Nat) : (E25).mode f = modeOf [] f := rfl
theorem rw25 : (E25).rows = false := rfl
theorem kp25 (f : Nat) : (E25).keep f = keepOf [(3, [2]), (2, [2]), (1, [0, 5]), (0, [0])] f := rfl
theorem lp25 (f : Nat) : (E25).loops f = loopsOf [] f := rfl
theorem bx25 (f : Nat) : (E25).boxes f = boxesOf [] f := rfl
noncomputable def v25 : Spec := fnSpec (E25) 1 Try.f25
theorem vv25 (args : List V) (S : St) : v25 args S = fnSpec (E25) 1 Try.f25 args S := rfl
def u25 := And.intro @vv25 (And.intro @ty25 (And.intro @call25 (And.intro @nw25 (And.intro @md25 (And.intro @rw25 (And.intro @kp25 (And.intro @lp25 (@bx25))))))))
theorem ok25 : SoundAt Try.prog 25 (v25) := soundAt_of mixed tyOk rfl (by intro p hp; simp only [List.cons_append, List.nil_append, List.mem_cons, List.mem_append, List.not_mem_nil, or_false] at hp; rcases hp with rfl <;> first | exact ok44) (f := 25) (fn := Try.f25) (by kernel_rfl) (by kernel_rfl) (by kernel_rfl) _

/-! 27: (*stevedore/task.Task).Waits (1 parameters) -/
noncomputable def E27 : Env := { ty := ty, call := callOf ([(44, v44)]), news := newsOf [], mode := modeOf [], rows := false, keep := keepOf [(3, [2]), (2, [2]), (1, [0, 5]), (0, [0])], loops := loopsOf [], boxes := boxesOf [] }
theorem ty27 : (E27).ty = ty := rfl
theorem call27 (f : Nat) (args : List V) (S : St) : (E27).call f args S = callOf ([(44, v44)]) f args S := rfl
theorem nw27 (f : Nat) : (E27).news f = newsOf [] f := rfl
theorem md27 (f : Nat) : (E27).mode f = modeOf [] f := rfl
theorem rw27 : (E27).rows = false := rfl
theorem kp27 (f : Nat) : (E27).keep f = keepOf [(3, [2]), (2, [2]), (1, [0, 5]), (0, [0])] f := rfl
theorem lp27 (f : Nat) : (E27).loops f = loopsOf [] f := rfl
theorem bx27 (f : Nat) : (E27).boxes f = boxesOf [] f := rfl
noncomputable def v27 : Spec := fnSpec (E27) 1 Try.f27
theorem vv27 (args : List V) (S : St) : v27 args S = fnSpec (E27) 1 Try.f27 args S := rfl
def u27 := And.intro @vv27 (And.intro @ty27 (And.intro @call27 (And.intro @nw27 (And.intro @md27 (And.intro @rw27 (And.intro @kp27 (And.intro @lp27 (@bx27))))))))
theorem ok27 : SoundAt Try.prog 27 (v27) := soundAt_of mixed tyOk rfl (by intro p hp; simp only [List.cons_append, List.nil_append, List.mem_cons, List.mem_append, List.not_mem_nil, or_false] at hp; rcases hp with rfl <;> first | exact ok44) (f := 27) (fn := Try.f27) (by kernel_rfl) (by kernel_rfl) (by kernel_rfl) _

/-! 47: stevedore/stevedorebase.SamePicks (2 parameters) -/
noncomputable def E47 : Env := { ty := ty, call := callOf ([]), news := newsOf [], mode := modeOf [], rows := false, keep := keepOf [(8, [4]), (5, [0, 1, 5]), (7, [4]), (6, [0, 1, 5, 25]), (4, [0, 1, 5, 14]), (3, [0, 1, 5]), (2, [4]), (1, [0, 1, 10]), (0, [0, 1])], loops := loopsOf [(4, ([0, 1, 5], []))], boxes := boxesOf [] }
theorem ty47 : (E47).ty = ty := rfl
theorem call47 (f : Nat) (args : List V) (S : St) : (E47).call f args S = callOf ([]) f args S := rfl
theorem nw47 (f : Nat) : (E47).news f = newsOf [] f := rfl
theorem md47 (f : Nat) : (E47).mode f = modeOf [] f := rfl
theorem rw47 : (E47).rows = false := rfl
theorem kp47 (f : Nat) : (E47).keep f = keepOf [(8, [4]), (5, [0, 1, 5]), (7, [4]), (6, [0, 1, 5, 25]), (4, [0, 1, 5, 14]), (3, [0, 1, 5]), (2, [4]), (1, [0, 1, 10]), (0, [0, 1])] f := rfl
theorem lp47 (f : Nat) : (E47).loops f = loopsOf [(4, ([0, 1, 5], []))] f := rfl
theorem bx47 (f : Nat) : (E47).boxes f = boxesOf [] f := rfl
noncomputable def v47 : Spec := fnSpec (E47) 1 Try.f47
theorem vv47 (args : List V) (S : St) : v47 args S = fnSpec (E47) 1 Try.f47 args S := rfl
def u47 := And.intro @vv47 (And.intro @ty47 (And.intro @call47 (And.intro @nw47 (And.intro @md47 (And.intro @rw47 (And.intro @kp47 (And.intro @lp47 (@bx47))))))))
theorem ok47 : SoundAt Try.prog 47 (v47) := soundAt_of mixed tyOk rfl (by intro p hp; simp at hp) (f := 47) (fn := Try.f47) (by kernel_rfl) (by kernel_rfl) (by kernel_rfl) _

/-! 40: stevedore/stevedorelaw20.same (2 parameters) -/
noncomputable def E40 : Env := { ty := ty, call := callOf ([(47, v47)]), news := newsOf [], mode := modeOf [], rows := false, keep := keepOf [(1, [4]), (0, [2, 3])], loops := loopsOf [], boxes := boxesOf [] }
theorem ty40 : (E40).ty = ty := rfl
theorem call40 (f : Nat) (args : List V) (S : St) : (E40).call f args S = callOf ([(47, v47)]) f args S := rfl
theorem nw40 (f : Nat) : (E40).news f = newsOf [] f := rfl
theorem md40 (f : Nat) : (E40).mode f = modeOf [] f := rfl
theorem rw40 : (E40).rows = false := rfl
theorem kp40 (f : Nat) : (E40).keep f = keepOf [(1, [4]), (0, [2, 3])] f := rfl
theorem lp40 (f : Nat) : (E40).loops f = loopsOf [] f := rfl
theorem bx40 (f : Nat) : (E40).boxes f = boxesOf [] f := rfl
noncomputable def v40 : Spec := fnSpec (E40) 1 Try.f40
theorem vv40 (args : List V) (S : St) : v40 args S = fnSpec (E40) 1 Try.f40 args S := rfl
def u40 := And.intro @vv40 (And.intro @ty40 (And.intro @call40 (And.intro @nw40 (And.intro @md40 (And.intro @rw40 (And.intro @kp40 (And.intro @lp40 (@bx40))))))))
theorem ok40 : SoundAt Try.prog 40 (v40) := soundAt_of mixed tyOk rfl (by intro p hp; simp only [List.cons_append, List.nil_append, List.mem_cons, List.mem_append, List.not_mem_nil, or_false] at hp; rcases hp with rfl <;> first | exact ok47) (f := 40) (fn := Try.f40) (by kernel_rfl) (by kernel_rfl) (by kernel_rfl) _

/-! 21: stevedore/stevedorelaw20.works (0 parameters) -/
noncomputable def E21 : Env := { ty := ty, call := callOf ([(22, v22), (24, v24), (23, v23), (27, v27)]), news := newsOf [(22, 2)], mode := modeOf [], rows := false, keep := keepOf [(8, [0]), (7, [1, 3, 5, 7, 10]), (6, [1, 3, 5, 7]), (5, [1, 3, 5]), (4, [1, 3]), (3, [0]), (2, [1, 21]), (1, [1, 2]), (0, [])], loops := loopsOf [], boxes := boxesOf [] }
theorem ty21 : (E21).ty = ty := rfl
theorem call21 (f : Nat) (args : List V) (S : St) : (E21).call f args S = callOf ([(22, v22), (24, v24), (23, v23), (27, v27)]) f args S := rfl
theorem nw21 (f : Nat) : (E21).news f = newsOf [(22, 2)] f := rfl
theorem md21 (f : Nat) : (E21).mode f = modeOf [] f := rfl
theorem rw21 : (E21).rows = false := rfl
theorem kp21 (f : Nat) : (E21).keep f = keepOf [(8, [0]), (7, [1, 3, 5, 7, 10]), (6, [1, 3, 5, 7]), (5, [1, 3, 5]), (4, [1, 3]), (3, [0]), (2, [1, 21]), (1, [1, 2]), (0, [])] f := rfl
theorem lp21 (f : Nat) : (E21).loops f = loopsOf [] f := rfl
theorem bx21 (f : Nat) : (E21).boxes f = boxesOf [] f := rfl
noncomputable def v21 : Spec := fnSpec (E21) 1 Try.f21
theorem vv21 (args : List V) (S : St) : v21 args S = fnSpec (E21) 1 Try.f21 args S := rfl
def u21 := And.intro @vv21 (And.intro @ty21 (And.intro @call21 (And.intro @nw21 (And.intro @md21 (And.intro @rw21 (And.intro @kp21 (And.intro @lp21 (@bx21))))))))
theorem ok21 : SoundAt Try.prog 21 (v21) := soundAt_of mixed tyOk rfl (by intro p hp; simp only [List.cons_append, List.nil_append, List.mem_cons, List.mem_append, List.not_mem_nil, or_false] at hp; rcases hp with rfl | rfl | rfl | rfl <;> first | exact ok22 | exact ok24 | exact ok23 | exact ok27) (f := 21) (fn := Try.f21) (by kernel_rfl) (by kernel_rfl) (by kernel_rfl) _

/-! 12: stevedore/stevedorelaw20.TaskPlays (2 parameters) -/
noncomputable def E12 : Env := { ty := ty, call := callOf ([(22, v22), (37, v37), (24, v24), (26, v26), (38, v38), (25, v25), (27, v27), (23, v23), (39, v39), (40, v40), (21, v21)]), news := newsOf [(22, 2), (37, 2), (39, 1)], mode := modeOf [(40, 1)], rows := true, keep := keepOf [(50, [4]), (48, [2, 6, 20, 21]), (49, [2, 6, 20, 21]), (47, [2, 6, 20, 21, 196]), (46, [2, 6, 20, 21]), (45, [4]), (44, [2, 6, 20, 191]), (43, [2, 6, 20]), (18, [1, 2, 6, 10, 11, 12]), (42, [4]), (41, [1, 2, 6, 10, 11, 12, 185]), (34, [1, 2, 6, 10, 11, 12]), (33, [1, 2, 10, 11, 12, 13]), (32, [1, 2, 6, 10, 11, 12, 13]), (31, [4]), (30, [1, 2, 6, 10, 11, 12, 13, 144]), (29, [1, 2, 6, 10, 11, 12, 13]), (40, [1, 2, 6, 10, 11, 12]), (39, [1, 2, 6, 10, 11, 12, 164]), (38, [4]), (37, [1, 2, 6, 10, 11, 12, 14, 162]), (36, [1, 2, 6, 10, 11, 12, 14]), (27, [1, 2, 6, 10, 11, 12]), (26, [4]), (25, [1, 2, 6, 12, 17, 18, 136]), (24, [1, 2, 6, 12, 15, 16, 17, 18, 19]), (23, [4]), (22, [1, 2, 6, 10, 11, 12, 101]), (21, [1, 2, 6, 10, 11, 12, 15, 16, 95]), (20, [1, 2, 6, 10, 11, 12, 15, 16]), (35, [1, 2, 6, 10, 11, 12, 150]), (28, [1, 2, 6, 10, 11, 12, 74, 139]), (19, [1, 2, 6, 10, 11, 12, 74]), (17, [1, 2, 6, 10, 11, 12, 68]), (16, [1, 2, 6, 10, 11, 12]), (15, [1, 2, 6, 10, 11]), (13, [1, 2, 5, 6, 9]), (14, [1, 2, 5, 6, 9]), (12, [1, 2, 5, 6, 9, 57]), (11, [1, 2, 5, 6, 9]), (10, [4]), (9, [1, 2, 5, 6, 52]), (8, [4]), (7, [1, 2, 5, 6, 50]), (6, [1, 2, 5, 6, 7, 8]), (5, [1, 2, 5, 6, 7, 8, 40]), (4, [1, 2, 5, 6, 7, 8]), (3, [1, 2, 5, 6, 7]), (2, [1, 2, 5]), (1, [1, 2, 5]), (0, [1, 2])], loops := loopsOf [(47, ([2, 6, 20, 21], [])), (17, ([1, 2, 6, 10, 11, 12], [])), (12, ([1, 2, 5, 6, 9], []))], boxes := boxesOf [(47, [(2, (4, (95, 2))), (20, (4, (95, 2)))]), (17, [(2, (4, (95, 2)))]), (12, [(2, (4, (95, 2))), (5, (4, (95, 2)))])] }
theorem ty12 : (E12).ty = ty := rfl
theorem call12 (f : Nat) (args : List V) (S : St) : (E12).call f args S = callOf ([(22, v22), (37, v37), (24, v24), (26, v26), (38, v38), (25, v25), (27, v27), (23, v23), (39, v39), (40, v40), (21, v21)]) f args S := rfl
theorem nw12 (f : Nat) : (E12).news f = newsOf [(22, 2), (37, 2), (39, 1)] f := rfl
theorem md12 (f : Nat) : (E12).mode f = modeOf [(40, 1)] f := rfl
theorem rw12 : (E12).rows = true := rfl
theorem kp12 (f : Nat) : (E12).keep f = keepOf [(50, [4]), (48, [2, 6, 20, 21]), (49, [2, 6, 20, 21]), (47, [2, 6, 20, 21, 196]), (46, [2, 6, 20, 21]), (45, [4]), (44, [2, 6, 20, 191]), (43, [2, 6, 20]), (18, [1, 2, 6, 10, 11, 12]), (42, [4]), (41, [1, 2, 6, 10, 11, 12, 185]), (34, [1, 2, 6, 10, 11, 12]), (33, [1, 2, 10, 11, 12, 13]), (32, [1, 2, 6, 10, 11, 12, 13]), (31, [4]), (30, [1, 2, 6, 10, 11, 12, 13, 144]), (29, [1, 2, 6, 10, 11, 12, 13]), (40, [1, 2, 6, 10, 11, 12]), (39, [1, 2, 6, 10, 11, 12, 164]), (38, [4]), (37, [1, 2, 6, 10, 11, 12, 14, 162]), (36, [1, 2, 6, 10, 11, 12, 14]), (27, [1, 2, 6, 10, 11, 12]), (26, [4]), (25, [1, 2, 6, 12, 17, 18, 136]), (24, [1, 2, 6, 12, 15, 16, 17, 18, 19]), (23, [4]), (22, [1, 2, 6, 10, 11, 12, 101]), (21, [1, 2, 6, 10, 11, 12, 15, 16, 95]), (20, [1, 2, 6, 10, 11, 12, 15, 16]), (35, [1, 2, 6, 10, 11, 12, 150]), (28, [1, 2, 6, 10, 11, 12, 74, 139]), (19, [1, 2, 6, 10, 11, 12, 74]), (17, [1, 2, 6, 10, 11, 12, 68]), (16, [1, 2, 6, 10, 11, 12]), (15, [1, 2, 6, 10, 11]), (13, [1, 2, 5, 6, 9]), (14, [1, 2, 5, 6, 9]), (12, [1, 2, 5, 6, 9, 57]), (11, [1, 2, 5, 6, 9]), (10, [4]), (9, [1, 2, 5, 6, 52]), (8, [4]), (7, [1, 2, 5, 6, 50]), (6, [1, 2, 5, 6, 7, 8]), (5, [1, 2, 5, 6, 7, 8, 40]), (4, [1, 2, 5, 6, 7, 8]), (3, [1, 2, 5, 6, 7]), (2, [1, 2, 5]), (1, [1, 2, 5]), (0, [1, 2])] f := rfl
theorem lp12 (f : Nat) : (E12).loops f = loopsOf [(47, ([2, 6, 20, 21], [])), (17, ([1, 2, 6, 10, 11, 12], [])), (12, ([1, 2, 5, 6, 9], []))] f := rfl
theorem bx12 (f : Nat) : (E12).boxes f = boxesOf [(47, [(2, (4, (95, 2))), (20, (4, (95, 2)))]), (17, [(2, (4, (95, 2)))]), (12, [(2, (4, (95, 2))), (5, (4, (95, 2)))])] f := rfl
noncomputable def v12 : Spec := fnSpec (E12) 1 Try.f12
theorem vv12 (args : List V) (S : St) : v12 args S = fnSpec (E12) 1 Try.f12 args S := rfl
def u12 := And.intro @vv12 (And.intro @ty12 (And.intro @call12 (And.intro @nw12 (And.intro @md12 (And.intro @rw12 (And.intro @kp12 (And.intro @lp12 (@bx12))))))))
theorem ok12 : SoundAt Try.prog 12 (v12) := soundAt_of mixed tyOk rfl (by intro p hp; simp only [List.cons_append, List.nil_append, List.mem_cons, List.mem_append, List.not_mem_nil, or_false] at hp; rcases hp with rfl | rfl | rfl | rfl | rfl | rfl | rfl | rfl | rfl | rfl | rfl <;> first | exact ok22 | exact ok37 | exact ok24 | exact ok26 | exact ok38 | exact ok25 | exact ok27 | exact ok23 | exact ok39 | exact ok40 | exact ok21) (f := 12) (fn := Try.f12) (by kernel_rfl) (by kernel_rfl) (by kernel_rfl) _

/-! 13: stevedore/stevedorelaw20.TaskNone (1 parameters) -/
noncomputable def E13 : Env := { ty := ty, call := callOf ([(21, v21), (24, v24), (26, v26), (25, v25), (27, v27), (23, v23), (39, v39), (40, v40), (37, v37)]), news := newsOf [(39, 1), (37, 2)], mode := modeOf [(40, 1)], rows := false, keep := keepOf [(7, [2]), (6, [3, 4, 6, 8]), (5, [0, 3, 4, 6]), (4, [0, 3, 4]), (3, [0, 3]), (2, [2]), (1, [0, 10]), (0, [0])], loops := loopsOf [], boxes := boxesOf [] }
theorem ty13 : (E13).ty = ty := rfl
theorem call13 (f : Nat) (args : List V) (S : St) : (E13).call f args S = callOf ([(21, v21), (24, v24), (26, v26), (25, v25), (27, v27), (23, v23), (39, v39), (40, v40), (37, v37)]) f args S := rfl
theorem nw13 (f : Nat) : (E13).news f = newsOf [(39, 1), (37, 2)] f := rfl
theorem md13 (f : Nat) : (E13).mode f = modeOf [(40, 1)] f := rfl
theorem rw13 : (E13).rows = false := rfl
theorem kp13 (f : Nat) : (E13).keep f = keepOf [(7, [2]), (6, [3, 4, 6, 8]), (5, [0, 3, 4, 6]), (4, [0, 3, 4]), (3, [0, 3]), (2, [2]), (1, [0, 10]), (0, [0])] f := rfl
theorem lp13 (f : Nat) : (E13).loops f = loopsOf [] f := rfl
theorem bx13 (f : Nat) : (E13).boxes f = boxesOf [] f := rfl
noncomputable def v13 : Spec := fnSpec (E13) 1 Try.f13
theorem vv13 (args : List V) (S : St) : v13 args S = fnSpec (E13) 1 Try.f13 args S := rfl
def u13 := And.intro @vv13 (And.intro @ty13 (And.intro @call13 (And.intro @nw13 (And.intro @md13 (And.intro @rw13 (And.intro @kp13 (And.intro @lp13 (@bx13))))))))
theorem ok13 : SoundAt Try.prog 13 (v13) := soundAt_of mixed tyOk rfl (by intro p hp; simp only [List.cons_append, List.nil_append, List.mem_cons, List.mem_append, List.not_mem_nil, or_false] at hp; rcases hp with rfl | rfl | rfl | rfl | rfl | rfl | rfl | rfl | rfl <;> first | exact ok21 | exact ok24 | exact ok26 | exact ok25 | exact ok27 | exact ok23 | exact ok39 | exact ok40 | exact ok37) (f := 13) (fn := Try.f13) (by kernel_rfl) (by kernel_rfl) (by kernel_rfl) _
end Go.Wm.Try1
