/-
  A part of the proof: an abstract run of the program, shown to be what the model does, and what it comes to.
-/
import Derived.Test.YtmfjfejjegemaaaGreatDoorWmSm
import Derived.Test.YtmfjfejjegemaaaGreatDoorProg
import Derived.KernelRfl
set_option linter.unusedSectionVars false
set_option linter.unnecessarySimpa false
set_option maxRecDepth 100000
set_option linter.unusedVariables false
set_option linter.unusedSimpArgs false
set_option linter.defProp false
namespace Go.Wm.Try1
open Go Go.Wm Go.Proofs
def tab : List (Nat × TI) := [
  (3, ⟨.int .i64, 1, 8, [.d (.int .i64 0)], false⟩),
  (4, ⟨.bool, 1, 1, [.d (.bool false)], false⟩),
  (5, ⟨.int .u8, 1, 1, [.d (.int .u8 0)], false⟩),
  (9, ⟨.str, 1, 16, [.d (.str [])], false⟩),
  (20, ⟨.ifc, 1, 16, [.d .nili], false⟩),
  (22, ⟨.sl 161 2 32, 1, 24, [.nil], false⟩),
  (24, ⟨.st [(0, 3, 1), (1, 3, 1), (2, 3, 1)], 3, 24, [.d (.int .i64 0), .d (.int .i64 0), .d (.int .i64 0)], true⟩),
  (25, ⟨.sl 125 4 48, 1, 24, [.nil], false⟩),
  (26, ⟨.sl 91 3 48, 1, 24, [.nil], false⟩),
  (27, ⟨.sl 106 2 32, 1, 24, [.nil], false⟩),
  (28, ⟨.sl 3 1 8, 1, 24, [.nil], false⟩),
  (29, ⟨.sl 133 2 40, 1, 24, [.nil], false⟩),
  (30, ⟨.sl 110 4 56, 1, 24, [.nil], false⟩),
  (31, ⟨.sl 9 1 16, 1, 24, [.nil], false⟩),
  (33, ⟨.st [(0, 9, 1), (1, 3, 1), (2, 22, 1), (3, 24, 3), (6, 25, 1), (7, 26, 1), (8, 27, 1), (9, 28, 1), (10, 29, 1), (11, 29, 1), (12, 30, 1), (13, 31, 1), (14, 9, 1), (15, 9, 1)], 16, 296, [.d (.str []), .d (.int .i64 0), .nil, .d (.int .i64 0), .d (.int .i64 0), .d (.int .i64 0), .nil, .nil, .nil, .nil, .nil, .nil, .nil, .nil, .d (.str []), .d (.str [])], false⟩),
  (34, ⟨.sl 127 3 40, 1, 24, [.nil], false⟩),
  (36, ⟨.st [(0, 9, 1), (1, 22, 1), (2, 34, 1), (3, 4, 1), (4, 24, 3), (7, 3, 1), (8, 3, 1)], 9, 112, [.d (.str []), .nil, .nil, .d (.bool false), .d (.int .i64 0), .d (.int .i64 0), .d (.int .i64 0), .d (.int .i64 0), .d (.int .i64 0)], false⟩),
  (38, ⟨.st [(0, 36, 9), (9, 31, 1), (10, 24, 3), (13, 28, 1), (14, 31, 1)], 15, 208, [.d (.str []), .nil, .nil, .d (.bool false), .d (.int .i64 0), .d (.int .i64 0), .d (.int .i64 0), .d (.int .i64 0), .d (.int .i64 0), .nil, .d (.int .i64 0), .d (.int .i64 0), .d (.int .i64 0), .nil, .nil], false⟩),
  (39, ⟨.sl 33 16 296, 1, 24, [.nil], false⟩),
  (40, ⟨.sl 36 9 112, 1, 24, [.nil], false⟩),
  (41, ⟨.sl 48 5 80, 1, 24, [.nil], false⟩),
  (42, ⟨.sl 61 4 56, 1, 24, [.nil], false⟩),
  (43, ⟨.sl 71 2 24, 1, 24, [.nil], false⟩),
  (44, ⟨.sl 78 3 48, 1, 24, [.nil], false⟩),
  (46, ⟨.st [(0, 39, 1), (1, 40, 1), (2, 41, 1), (3, 42, 1), (4, 43, 1), (5, 44, 1)], 6, 144, [.nil, .nil, .nil, .nil, .nil, .nil], false⟩),
  (48, ⟨.st [(0, 9, 1), (1, 3, 1), (2, 9, 1), (3, 26, 1), (4, 9, 1)], 5, 80, [.d (.str []), .d (.int .i64 0), .d (.str []), .nil, .d (.str [])], false⟩),
  (52, ⟨.sl 67 2 32, 1, 24, [.nil], false⟩),
  (57, ⟨.int .i64, 1, 8, [.d (.int .i64 0)], false⟩),
  (61, ⟨.st [(0, 9, 1), (1, 3, 1), (2, 9, 1), (3, 9, 1)], 4, 56, [.d (.str []), .d (.int .i64 0), .d (.str []), .d (.str [])], true⟩),
  (67, ⟨.st [(0, 9, 1), (1, 9, 1)], 2, 32, [.d (.str []), .d (.str [])], true⟩),
  (71, ⟨.st [(0, 9, 1), (1, 4, 1)], 2, 24, [.d (.str []), .d (.bool false)], true⟩),
  (78, ⟨.st [(0, 9, 1), (1, 26, 1), (2, 3, 1)], 3, 48, [.d (.str []), .nil, .d (.int .i64 0)], false⟩),
  (80, ⟨.ptr 82, 1, 8, [.d .nilp], false⟩),
  (82, ⟨.st [(0, 38, 15), (15, 46, 6), (21, 52, 1)], 22, 376, [.d (.str []), .nil, .nil, .d (.bool false), .d (.int .i64 0), .d (.int .i64 0), .d (.int .i64 0), .d (.int .i64 0), .d (.int .i64 0), .nil, .d (.int .i64 0), .d (.int .i64 0), .d (.int .i64 0), .nil, .nil, .nil, .nil, .nil, .nil, .nil, .nil, .nil], false⟩),
  (87, ⟨.ptr 61, 1, 8, [.d .nilp], false⟩),
  (88, ⟨.ptr 48, 1, 8, [.d .nilp], false⟩),
  (89, ⟨.func, 1, 8, [.d .nilf], false⟩),
  (91, ⟨.st [(0, 9, 1), (1, 3, 1), (2, 31, 1)], 3, 48, [.d (.str []), .d (.int .i64 0), .nil], false⟩),
  (100, ⟨.func, 1, 8, [.d .nilf], false⟩),
  (102, ⟨.func, 1, 8, [.d .nilf], false⟩),
  (106, ⟨.st [(0, 26, 1), (1, 3, 1)], 2, 32, [.nil, .d (.int .i64 0)], false⟩),
  (110, ⟨.st [(0, 9, 1), (1, 3, 1), (2, 3, 1), (3, 26, 1)], 4, 56, [.d (.str []), .d (.int .i64 0), .d (.int .i64 0), .nil], false⟩),
  (114, ⟨.int .u64, 1, 8, [.d (.int .u64 0)], false⟩),
  (125, ⟨.st [(0, 9, 1), (1, 9, 1), (2, 4, 1), (3, 3, 1)], 4, 48, [.d (.str []), .d (.str []), .d (.bool false), .d (.int .i64 0)], true⟩),
  (127, ⟨.st [(0, 9, 1), (1, 9, 1), (2, 3, 1)], 3, 40, [.d (.str []), .d (.str []), .d (.int .i64 0)], true⟩),
  (129, ⟨.func, 1, 8, [.d .nilf], false⟩),
  (131, ⟨.func, 1, 8, [.d .nilf], false⟩),
  (133, ⟨.st [(0, 26, 1), (1, 9, 1)], 2, 40, [.nil, .d (.str [])], false⟩),
  (135, ⟨.func, 1, 8, [.d .nilf], false⟩),
  (139, ⟨.func, 1, 8, [.d .nilf], false⟩),
  (142, ⟨.int .i64, 1, 8, [.d (.int .i64 0)], false⟩),
  (151, ⟨.int .u32, 1, 4, [.d (.int .u32 0)], false⟩),
  (153, ⟨.int .u64, 1, 8, [.d (.int .u64 0)], false⟩),
  (161, ⟨.st [(0, 9, 1), (1, 9, 1)], 2, 32, [.d (.str []), .d (.str [])], true⟩),
  (165, ⟨.func, 1, 8, [.d .nilf], false⟩),
  (167, ⟨.func, 1, 8, [.d .nilf], false⟩)]
def ty : Nat → Option TI := tabOf tab
theorem tyOk : TyOk Tryz.prog ty := tyOk_of_tab _ _ (by kernel_rfl)
theorem mixed : Tryz.prog.follows .mixedOrders = true := by kernel_rfl
theorem ty_3 : ty 3 = some ⟨.int .i64, 1, 8, [.d (.int .i64 0)], false⟩ := by kernel_rfl
theorem ty_4 : ty 4 = some ⟨.bool, 1, 1, [.d (.bool false)], false⟩ := by kernel_rfl
theorem ty_5 : ty 5 = some ⟨.int .u8, 1, 1, [.d (.int .u8 0)], false⟩ := by kernel_rfl
theorem ty_9 : ty 9 = some ⟨.str, 1, 16, [.d (.str [])], false⟩ := by kernel_rfl
theorem ty_20 : ty 20 = some ⟨.ifc, 1, 16, [.d .nili], false⟩ := by kernel_rfl
theorem ty_22 : ty 22 = some ⟨.sl 161 2 32, 1, 24, [.nil], false⟩ := by kernel_rfl
theorem ty_24 : ty 24 = some ⟨.st [(0, 3, 1), (1, 3, 1), (2, 3, 1)], 3, 24, [.d (.int .i64 0), .d (.int .i64 0), .d (.int .i64 0)], true⟩ := by kernel_rfl
theorem ty_25 : ty 25 = some ⟨.sl 125 4 48, 1, 24, [.nil], false⟩ := by kernel_rfl
theorem ty_26 : ty 26 = some ⟨.sl 91 3 48, 1, 24, [.nil], false⟩ := by kernel_rfl
theorem ty_27 : ty 27 = some ⟨.sl 106 2 32, 1, 24, [.nil], false⟩ := by kernel_rfl
theorem ty_28 : ty 28 = some ⟨.sl 3 1 8, 1, 24, [.nil], false⟩ := by kernel_rfl
theorem ty_29 : ty 29 = some ⟨.sl 133 2 40, 1, 24, [.nil], false⟩ := by kernel_rfl
theorem ty_30 : ty 30 = some ⟨.sl 110 4 56, 1, 24, [.nil], false⟩ := by kernel_rfl
theorem ty_31 : ty 31 = some ⟨.sl 9 1 16, 1, 24, [.nil], false⟩ := by kernel_rfl
theorem ty_33 : ty 33 = some ⟨.st [(0, 9, 1), (1, 3, 1), (2, 22, 1), (3, 24, 3), (6, 25, 1), (7, 26, 1), (8, 27, 1), (9, 28, 1), (10, 29, 1), (11, 29, 1), (12, 30, 1), (13, 31, 1), (14, 9, 1), (15, 9, 1)], 16, 296, [.d (.str []), .d (.int .i64 0), .nil, .d (.int .i64 0), .d (.int .i64 0), .d (.int .i64 0), .nil, .nil, .nil, .nil, .nil, .nil, .nil, .nil, .d (.str []), .d (.str [])], false⟩ := by kernel_rfl
theorem ty_34 : ty 34 = some ⟨.sl 127 3 40, 1, 24, [.nil], false⟩ := by kernel_rfl
theorem ty_36 : ty 36 = some ⟨.st [(0, 9, 1), (1, 22, 1), (2, 34, 1), (3, 4, 1), (4, 24, 3), (7, 3, 1), (8, 3, 1)], 9, 112, [.d (.str []), .nil, .nil, .d (.bool false), .d (.int .i64 0), .d (.int .i64 0), .d (.int .i64 0), .d (.int .i64 0), .d (.int .i64 0)], false⟩ := by kernel_rfl
theorem ty_38 : ty 38 = some ⟨.st [(0, 36, 9), (9, 31, 1), (10, 24, 3), (13, 28, 1), (14, 31, 1)], 15, 208, [.d (.str []), .nil, .nil, .d (.bool false), .d (.int .i64 0), .d (.int .i64 0), .d (.int .i64 0), .d (.int .i64 0), .d (.int .i64 0), .nil, .d (.int .i64 0), .d (.int .i64 0), .d (.int .i64 0), .nil, .nil], false⟩ := by kernel_rfl
theorem ty_39 : ty 39 = some ⟨.sl 33 16 296, 1, 24, [.nil], false⟩ := by kernel_rfl
theorem ty_40 : ty 40 = some ⟨.sl 36 9 112, 1, 24, [.nil], false⟩ := by kernel_rfl
theorem ty_41 : ty 41 = some ⟨.sl 48 5 80, 1, 24, [.nil], false⟩ := by kernel_rfl
theorem ty_42 : ty 42 = some ⟨.sl 61 4 56, 1, 24, [.nil], false⟩ := by kernel_rfl
theorem ty_43 : ty 43 = some ⟨.sl 71 2 24, 1, 24, [.nil], false⟩ := by kernel_rfl
theorem ty_44 : ty 44 = some ⟨.sl 78 3 48, 1, 24, [.nil], false⟩ := by kernel_rfl
theorem ty_46 : ty 46 = some ⟨.st [(0, 39, 1), (1, 40, 1), (2, 41, 1), (3, 42, 1), (4, 43, 1), (5, 44, 1)], 6, 144, [.nil, .nil, .nil, .nil, .nil, .nil], false⟩ := by kernel_rfl
theorem ty_48 : ty 48 = some ⟨.st [(0, 9, 1), (1, 3, 1), (2, 9, 1), (3, 26, 1), (4, 9, 1)], 5, 80, [.d (.str []), .d (.int .i64 0), .d (.str []), .nil, .d (.str [])], false⟩ := by kernel_rfl
theorem ty_52 : ty 52 = some ⟨.sl 67 2 32, 1, 24, [.nil], false⟩ := by kernel_rfl
theorem ty_57 : ty 57 = some ⟨.int .i64, 1, 8, [.d (.int .i64 0)], false⟩ := by kernel_rfl
theorem ty_61 : ty 61 = some ⟨.st [(0, 9, 1), (1, 3, 1), (2, 9, 1), (3, 9, 1)], 4, 56, [.d (.str []), .d (.int .i64 0), .d (.str []), .d (.str [])], true⟩ := by kernel_rfl
theorem ty_67 : ty 67 = some ⟨.st [(0, 9, 1), (1, 9, 1)], 2, 32, [.d (.str []), .d (.str [])], true⟩ := by kernel_rfl
theorem ty_71 : ty 71 = some ⟨.st [(0, 9, 1), (1, 4, 1)], 2, 24, [.d (.str []), .d (.bool false)], true⟩ := by kernel_rfl
theorem ty_78 : ty 78 = some ⟨.st [(0, 9, 1), (1, 26, 1), (2, 3, 1)], 3, 48, [.d (.str []), .nil, .d (.int .i64 0)], false⟩ := by kernel_rfl
theorem ty_80 : ty 80 = some ⟨.ptr 82, 1, 8, [.d .nilp], false⟩ := by kernel_rfl
theorem ty_82 : ty 82 = some ⟨.st [(0, 38, 15), (15, 46, 6), (21, 52, 1)], 22, 376, [.d (.str []), .nil, .nil, .d (.bool false), .d (.int .i64 0), .d (.int .i64 0), .d (.int .i64 0), .d (.int .i64 0), .d (.int .i64 0), .nil, .d (.int .i64 0), .d (.int .i64 0), .d (.int .i64 0), .nil, .nil, .nil, .nil, .nil, .nil, .nil, .nil, .nil], false⟩ := by kernel_rfl
theorem ty_87 : ty 87 = some ⟨.ptr 61, 1, 8, [.d .nilp], false⟩ := by kernel_rfl
theorem ty_88 : ty 88 = some ⟨.ptr 48, 1, 8, [.d .nilp], false⟩ := by kernel_rfl
theorem ty_89 : ty 89 = some ⟨.func, 1, 8, [.d .nilf], false⟩ := by kernel_rfl
theorem ty_91 : ty 91 = some ⟨.st [(0, 9, 1), (1, 3, 1), (2, 31, 1)], 3, 48, [.d (.str []), .d (.int .i64 0), .nil], false⟩ := by kernel_rfl
theorem ty_100 : ty 100 = some ⟨.func, 1, 8, [.d .nilf], false⟩ := by kernel_rfl
theorem ty_102 : ty 102 = some ⟨.func, 1, 8, [.d .nilf], false⟩ := by kernel_rfl
theorem ty_106 : ty 106 = some ⟨.st [(0, 26, 1), (1, 3, 1)], 2, 32, [.nil, .d (.int .i64 0)], false⟩ := by kernel_rfl
theorem ty_110 : ty 110 = some ⟨.st [(0, 9, 1), (1, 3, 1), (2, 3, 1), (3, 26, 1)], 4, 56, [.d (.str []), .d (.int .i64 0), .d (.int .i64 0), .nil], false⟩ := by kernel_rfl
theorem ty_114 : ty 114 = some ⟨.int .u64, 1, 8, [.d (.int .u64 0)], false⟩ := by kernel_rfl
theorem ty_125 : ty 125 = some ⟨.st [(0, 9, 1), (1, 9, 1), (2, 4, 1), (3, 3, 1)], 4, 48, [.d (.str []), .d (.str []), .d (.bool false), .d (.int .i64 0)], true⟩ := by kernel_rfl
theorem ty_127 : ty 127 = some ⟨.st [(0, 9, 1), (1, 9, 1), (2, 3, 1)], 3, 40, [.d (.str []), .d (.str []), .d (.int .i64 0)], true⟩ := by kernel_rfl
theorem ty_129 : ty 129 = some ⟨.func, 1, 8, [.d .nilf], false⟩ := by kernel_rfl
theorem ty_131 : ty 131 = some ⟨.func, 1, 8, [.d .nilf], false⟩ := by kernel_rfl
theorem ty_133 : ty 133 = some ⟨.st [(0, 26, 1), (1, 9, 1)], 2, 40, [.nil, .d (.str [])], false⟩ := by kernel_rfl
theorem ty_135 : ty 135 = some ⟨.func, 1, 8, [.d .nilf], false⟩ := by kernel_rfl
theorem ty_139 : ty 139 = some ⟨.func, 1, 8, [.d .nilf], false⟩ := by kernel_rfl
theorem ty_142 : ty 142 = some ⟨.int .i64, 1, 8, [.d (.int .i64 0)], false⟩ := by kernel_rfl
theorem ty_151 : ty 151 = some ⟨.int .u32, 1, 4, [.d (.int .u32 0)], false⟩ := by kernel_rfl
theorem ty_153 : ty 153 = some ⟨.int .u64, 1, 8, [.d (.int .u64 0)], false⟩ := by kernel_rfl
theorem ty_161 : ty 161 = some ⟨.st [(0, 9, 1), (1, 9, 1)], 2, 32, [.d (.str []), .d (.str [])], true⟩ := by kernel_rfl
theorem ty_165 : ty 165 = some ⟨.func, 1, 8, [.d .nilf], false⟩ := by kernel_rfl
theorem ty_167 : ty 167 = some ⟨.func, 1, 8, [.d .nilf], false⟩ := by kernel_rfl
def tys := And.intro @ty_3 (And.intro @ty_4 (And.intro @ty_5 (And.intro @ty_9 (And.intro @ty_20 (And.intro @ty_22 (And.intro @ty_24 (And.intro @ty_25 (And.intro @ty_26 (And.intro @ty_27 (And.intro @ty_28 (And.intro @ty_29 (And.intro @ty_30 (And.intro @ty_31 (And.intro @ty_33 (And.intro @ty_34 (And.intro @ty_36 (And.intro @ty_38 (And.intro @ty_39 (And.intro @ty_40 (And.intro @ty_41 (And.intro @ty_42 (And.intro @ty_43 (And.intro @ty_44 (And.intro @ty_46 (And.intro @ty_48 (And.intro @ty_52 (And.intro @ty_57 (And.intro @ty_61 (And.intro @ty_67 (And.intro @ty_71 (And.intro @ty_78 (And.intro @ty_80 (And.intro @ty_82 (And.intro @ty_87 (And.intro @ty_88 (And.intro @ty_89 (And.intro @ty_91 (And.intro @ty_100 (And.intro @ty_102 (And.intro @ty_106 (And.intro @ty_110 (And.intro @ty_114 (And.intro @ty_125 (And.intro @ty_127 (And.intro @ty_129 (And.intro @ty_131 (And.intro @ty_133 (And.intro @ty_135 (And.intro @ty_139 (And.intro @ty_142 (And.intro @ty_151 (And.intro @ty_153 (And.intro @ty_161 (And.intro @ty_165 (@ty_167)))))))))))))))))))))))))))))))))))))))))))))))))))))))

/-! 42: stevedore/volume.claimName (1 parameters) -/
noncomputable def E42 : Env := { ty := ty, call := callOf ([]), news := newsOf [], mode := modeOf [], rows := false, keep := keepOf [(1, [2]), (0, [1])], loops := loopsOf [], boxes := boxesOf [] }
theorem ty42 : (E42).ty = ty := rfl
theorem call42 (f : Nat) (args : List V) (S : St) : (E42).call f args S = callOf ([]) f args S := rfl
theorem nw42 (f : Nat) : (E42).news f = newsOf [] f := rfl
theorem md42 (f : Nat) : (E42).mode f = modeOf [] f := rfl
theorem rw42 : (E42).rows = false := rfl
theorem kp42 (f : Nat) : (E42).keep f = keepOf [(1, [2]), (0, [1])] f := rfl
theorem lp42 (f : Nat) : (E42).loops f = loopsOf [] f := rfl
theorem bx42 (f : Nat) : (E42).boxes f = boxesOf [] f := rfl
noncomputable def v42 : Spec := fnSpec (E42) 1 Tryz.f42
theorem vv42 (args : List V) (S : St) : v42 args S = fnSpec (E42) 1 Tryz.f42 args S := rfl
def u42 := And.intro @vv42 (And.intro @ty42 (And.intro @call42 (And.intro @nw42 (And.intro @md42 (And.intro @rw42 (And.intro @kp42 (And.intro @lp42 (@bx42))))))))
theorem ok42 : SoundAt Tryz.prog 42 (v42) := soundAt_of mixed tyOk rfl (by intro p hp; simp at hp) (f := 42) (fn := Tryz.f42) (by kernel_rfl) (by kernel_rfl) (by kernel_rfl) _

/-! 66: stevedore/volume.by[stevedore/api.Claim]$1 (1 parameters) -/
noncomputable def E66 : Env := { ty := ty, call := callOf ([(42, v42)]), news := newsOf [], mode := modeOf [], rows := false, keep := keepOf [(1, [4]), (0, [1, 2, 3])], loops := loopsOf [], boxes := boxesOf [] }
theorem ty66 : (E66).ty = ty := rfl
theorem call66 (f : Nat) (args : List V) (S : St) : (E66).call f args S = callOf ([(42, v42)]) f args S := rfl
theorem nw66 (f : Nat) : (E66).news f = newsOf [] f := rfl
theorem md66 (f : Nat) : (E66).mode f = modeOf [] f := rfl
theorem rw66 : (E66).rows = false := rfl
theorem kp66 (f : Nat) : (E66).keep f = keepOf [(1, [4]), (0, [1, 2, 3])] f := rfl
theorem lp66 (f : Nat) : (E66).loops f = loopsOf [] f := rfl
theorem bx66 (f : Nat) : (E66).boxes f = boxesOf [] f := rfl
noncomputable def v66 : Spec := fnSpec (E66) 1 Tryz.f66
theorem vv66 (args : List V) (S : St) : v66 args S = fnSpec (E66) 1 Tryz.f66 args S := rfl
def u66 := And.intro @vv66 (And.intro @ty66 (And.intro @call66 (And.intro @nw66 (And.intro @md66 (And.intro @rw66 (And.intro @kp66 (And.intro @lp66 (@bx66))))))))
theorem ok66 : SoundAt Tryz.prog 66 (v66) := soundAt_of mixed tyOk rfl (by intro p hp; simp only [List.cons_append, List.nil_append, List.mem_cons, List.mem_append, List.not_mem_nil, or_false] at hp; rcases hp with rfl <;> first | exact ok42) (f := 66) (fn := Tryz.f66) (by kernel_rfl) (by kernel_rfl) (by kernel_rfl) _

/-! 65: slices.IndexFunc[[]stevedore/api.Claim,stevedore/api.Claim] (2 parameters) -/
noncomputable def E65 (cl : List (Nat × Spec)) : Env := { ty := ty, call := callOf ([] ++ cl), news := newsOf [], mode := modeOf [], rows := false, keep := keepOf [(7, [4]), (6, [0, 1, 7, 8]), (5, [4]), (4, [0, 1, 5, 7, 8, 16]), (3, [0, 1, 5, 7, 8]), (2, [0, 1, 7, 8, 9]), (1, [0, 1, 7, 8]), (0, [0, 1])], loops := loopsOf [(2, ([0, 1, 7, 8], []))], boxes := boxesOf [] }
theorem ty65 (cl : List (Nat × Spec)) : (E65 cl).ty = ty := rfl
theorem call65 (cl : List (Nat × Spec)) (f : Nat) (args : List V) (S : St) : (E65 cl).call f args S = callOf ([] ++ cl) f args S := rfl
theorem nw65 (cl : List (Nat × Spec)) (f : Nat) : (E65 cl).news f = newsOf [] f := rfl
theorem md65 (cl : List (Nat × Spec)) (f : Nat) : (E65 cl).mode f = modeOf [] f := rfl
theorem rw65 (cl : List (Nat × Spec)) : (E65 cl).rows = false := rfl
theorem kp65 (cl : List (Nat × Spec)) (f : Nat) : (E65 cl).keep f = keepOf [(7, [4]), (6, [0, 1, 7, 8]), (5, [4]), (4, [0, 1, 5, 7, 8, 16]), (3, [0, 1, 5, 7, 8]), (2, [0, 1, 7, 8, 9]), (1, [0, 1, 7, 8]), (0, [0, 1])] f := rfl
theorem lp65 (cl : List (Nat × Spec)) (f : Nat) : (E65 cl).loops f = loopsOf [(2, ([0, 1, 7, 8], []))] f := rfl
theorem bx65 (cl : List (Nat × Spec)) (f : Nat) : (E65 cl).boxes f = boxesOf [] f := rfl
noncomputable def v65 (cl : List (Nat × Spec)) : Spec := fnSpec (E65 cl) 1 Tryz.f65
theorem vv65 (cl : List (Nat × Spec)) (args : List V) (S : St) : v65 cl args S = fnSpec (E65 cl) 1 Tryz.f65 args S := rfl
def u65 := And.intro @vv65 (And.intro @ty65 (And.intro @call65 (And.intro @nw65 (And.intro @md65 (And.intro @rw65 (And.intro @kp65 (And.intro @lp65 (@bx65))))))))
theorem ok65 (cl : List (Nat × Spec)) (hcl : ∀ p ∈ cl, SoundAt Tryz.prog p.1 p.2) : SoundAt Tryz.prog 65 (v65 cl) := soundAt_of mixed tyOk rfl (by intro p hp; simp only [List.cons_append, List.nil_append, List.mem_cons, List.mem_append, List.not_mem_nil, or_false] at hp; rcases hp with hp <;> first | exact hcl p hp) (f := 65) (fn := Tryz.f65) (by kernel_rfl) (by kernel_rfl) (by kernel_rfl) _

/-! 41: stevedore/volume.by[stevedore/api.Claim] (3 parameters) -/
noncomputable def E41 (cl : List (Nat × Spec)) : Env := { ty := ty, call := callOf ([(66, v66), (65, v65 ([(66, v66)] ++ cl))] ++ cl), news := newsOf [], mode := modeOf [], rows := false, keep := keepOf [(1, [6]), (0, [0, 4, 5])], loops := loopsOf [], boxes := boxesOf [] }
theorem ty41 (cl : List (Nat × Spec)) : (E41 cl).ty = ty := rfl
theorem call41 (cl : List (Nat × Spec)) (f : Nat) (args : List V) (S : St) : (E41 cl).call f args S = callOf ([(66, v66), (65, v65 ([(66, v66)] ++ cl))] ++ cl) f args S := rfl
theorem nw41 (cl : List (Nat × Spec)) (f : Nat) : (E41 cl).news f = newsOf [] f := rfl
theorem md41 (cl : List (Nat × Spec)) (f : Nat) : (E41 cl).mode f = modeOf [] f := rfl
theorem rw41 (cl : List (Nat × Spec)) : (E41 cl).rows = false := rfl
theorem kp41 (cl : List (Nat × Spec)) (f : Nat) : (E41 cl).keep f = keepOf [(1, [6]), (0, [0, 4, 5])] f := rfl
theorem lp41 (cl : List (Nat × Spec)) (f : Nat) : (E41 cl).loops f = loopsOf [] f := rfl
theorem bx41 (cl : List (Nat × Spec)) (f : Nat) : (E41 cl).boxes f = boxesOf [] f := rfl
noncomputable def v41 (cl : List (Nat × Spec)) : Spec := fnSpec (E41 cl) 1 Tryz.f41
theorem vv41 (cl : List (Nat × Spec)) (args : List V) (S : St) : v41 cl args S = fnSpec (E41 cl) 1 Tryz.f41 args S := rfl
def u41 := And.intro @vv41 (And.intro @ty41 (And.intro @call41 (And.intro @nw41 (And.intro @md41 (And.intro @rw41 (And.intro @kp41 (And.intro @lp41 (@bx41))))))))
theorem ok41 (cl : List (Nat × Spec)) (hcl : ∀ p ∈ cl, SoundAt Tryz.prog p.1 p.2) : SoundAt Tryz.prog 41 (v41 cl) := soundAt_of mixed tyOk rfl (by intro p hp; simp only [List.cons_append, List.nil_append, List.mem_cons, List.mem_append, List.not_mem_nil, or_false] at hp; rcases hp with rfl | rfl | hp <;> first | exact ok66 | exact ok65 _ (fun p hp => by simp only [List.cons_append, List.nil_append, List.mem_cons, List.mem_append, List.not_mem_nil, or_false] at hp; rcases hp with rfl | hp <;> first | exact ok66 | exact hcl p hp) | exact hcl p hp) (f := 41) (fn := Tryz.f41) (by kernel_rfl) (by kernel_rfl) (by kernel_rfl) _

/-! 40: stevedore/volume.volumeName (1 parameters) -/
noncomputable def E40 : Env := { ty := ty, call := callOf ([]), news := newsOf [], mode := modeOf [], rows := false, keep := keepOf [(1, [2]), (0, [1])], loops := loopsOf [], boxes := boxesOf [] }
theorem ty40 : (E40).ty = ty := rfl
theorem call40 (f : Nat) (args : List V) (S : St) : (E40).call f args S = callOf ([]) f args S := rfl
theorem nw40 (f : Nat) : (E40).news f = newsOf [] f := rfl
theorem md40 (f : Nat) : (E40).mode f = modeOf [] f := rfl
theorem rw40 : (E40).rows = false := rfl
theorem kp40 (f : Nat) : (E40).keep f = keepOf [(1, [2]), (0, [1])] f := rfl
theorem lp40 (f : Nat) : (E40).loops f = loopsOf [] f := rfl
theorem bx40 (f : Nat) : (E40).boxes f = boxesOf [] f := rfl
noncomputable def v40 : Spec := fnSpec (E40) 1 Tryz.f40
theorem vv40 (args : List V) (S : St) : v40 args S = fnSpec (E40) 1 Tryz.f40 args S := rfl
def u40 := And.intro @vv40 (And.intro @ty40 (And.intro @call40 (And.intro @nw40 (And.intro @md40 (And.intro @rw40 (And.intro @kp40 (And.intro @lp40 (@bx40))))))))
theorem ok40 : SoundAt Tryz.prog 40 (v40) := soundAt_of mixed tyOk rfl (by intro p hp; simp at hp) (f := 40) (fn := Tryz.f40) (by kernel_rfl) (by kernel_rfl) (by kernel_rfl) _

/-! 64: stevedore/volume.by[stevedore/api.Volume]$1 (1 parameters) -/
noncomputable def E64 : Env := { ty := ty, call := callOf ([(40, v40)]), news := newsOf [], mode := modeOf [], rows := false, keep := keepOf [(1, [4]), (0, [1, 2, 3])], loops := loopsOf [], boxes := boxesOf [] }
theorem ty64 : (E64).ty = ty := rfl
theorem call64 (f : Nat) (args : List V) (S : St) : (E64).call f args S = callOf ([(40, v40)]) f args S := rfl
theorem nw64 (f : Nat) : (E64).news f = newsOf [] f := rfl
theorem md64 (f : Nat) : (E64).mode f = modeOf [] f := rfl
theorem rw64 : (E64).rows = false := rfl
theorem kp64 (f : Nat) : (E64).keep f = keepOf [(1, [4]), (0, [1, 2, 3])] f := rfl
theorem lp64 (f : Nat) : (E64).loops f = loopsOf [] f := rfl
theorem bx64 (f : Nat) : (E64).boxes f = boxesOf [] f := rfl
noncomputable def v64 : Spec := fnSpec (E64) 1 Tryz.f64
theorem vv64 (args : List V) (S : St) : v64 args S = fnSpec (E64) 1 Tryz.f64 args S := rfl
def u64 := And.intro @vv64 (And.intro @ty64 (And.intro @call64 (And.intro @nw64 (And.intro @md64 (And.intro @rw64 (And.intro @kp64 (And.intro @lp64 (@bx64))))))))
theorem ok64 : SoundAt Tryz.prog 64 (v64) := soundAt_of mixed tyOk rfl (by intro p hp; simp only [List.cons_append, List.nil_append, List.mem_cons, List.mem_append, List.not_mem_nil, or_false] at hp; rcases hp with rfl <;> first | exact ok40) (f := 64) (fn := Tryz.f64) (by kernel_rfl) (by kernel_rfl) (by kernel_rfl) _

/-! 63: slices.IndexFunc[[]stevedore/api.Volume,stevedore/api.Volume] (2 parameters) -/
noncomputable def E63 (cl : List (Nat × Spec)) : Env := { ty := ty, call := callOf ([] ++ cl), news := newsOf [], mode := modeOf [], rows := false, keep := keepOf [(7, [4]), (6, [0, 1, 7, 8]), (5, [4]), (4, [0, 1, 5, 7, 8, 16]), (3, [0, 1, 5, 7, 8]), (2, [0, 1, 7, 8, 9]), (1, [0, 1, 7, 8]), (0, [0, 1])], loops := loopsOf [(2, ([0, 1, 7, 8], []))], boxes := boxesOf [] }
theorem ty63 (cl : List (Nat × Spec)) : (E63 cl).ty = ty := rfl
theorem call63 (cl : List (Nat × Spec)) (f : Nat) (args : List V) (S : St) : (E63 cl).call f args S = callOf ([] ++ cl) f args S := rfl
theorem nw63 (cl : List (Nat × Spec)) (f : Nat) : (E63 cl).news f = newsOf [] f := rfl
theorem md63 (cl : List (Nat × Spec)) (f : Nat) : (E63 cl).mode f = modeOf [] f := rfl
theorem rw63 (cl : List (Nat × Spec)) : (E63 cl).rows = false := rfl
theorem kp63 (cl : List (Nat × Spec)) (f : Nat) : (E63 cl).keep f = keepOf [(7, [4]), (6, [0, 1, 7, 8]), (5, [4]), (4, [0, 1, 5, 7, 8, 16]), (3, [0, 1, 5, 7, 8]), (2, [0, 1, 7, 8, 9]), (1, [0, 1, 7, 8]), (0, [0, 1])] f := rfl
theorem lp63 (cl : List (Nat × Spec)) (f : Nat) : (E63 cl).loops f = loopsOf [(2, ([0, 1, 7, 8], []))] f := rfl
theorem bx63 (cl : List (Nat × Spec)) (f : Nat) : (E63 cl).boxes f = boxesOf [] f := rfl
noncomputable def v63 (cl : List (Nat × Spec)) : Spec := fnSpec (E63 cl) 1 Tryz.f63
theorem vv63 (cl : List (Nat × Spec)) (args : List V) (S : St) : v63 cl args S = fnSpec (E63 cl) 1 Tryz.f63 args S := rfl
def u63 := And.intro @vv63 (And.intro @ty63 (And.intro @call63 (And.intro @nw63 (And.intro @md63 (And.intro @rw63 (And.intro @kp63 (And.intro @lp63 (@bx63))))))))
theorem ok63 (cl : List (Nat × Spec)) (hcl : ∀ p ∈ cl, SoundAt Tryz.prog p.1 p.2) : SoundAt Tryz.prog 63 (v63 cl) := soundAt_of mixed tyOk rfl (by intro p hp; simp only [List.cons_append, List.nil_append, List.mem_cons, List.mem_append, List.not_mem_nil, or_false] at hp; rcases hp with hp <;> first | exact hcl p hp) (f := 63) (fn := Tryz.f63) (by kernel_rfl) (by kernel_rfl) (by kernel_rfl) _

/-! 39: stevedore/volume.by[stevedore/api.Volume] (3 parameters) -/
noncomputable def E39 (cl : List (Nat × Spec)) : Env := { ty := ty, call := callOf ([(64, v64), (63, v63 ([(64, v64)] ++ cl))] ++ cl), news := newsOf [], mode := modeOf [], rows := false, keep := keepOf [(1, [6]), (0, [0, 4, 5])], loops := loopsOf [], boxes := boxesOf [] }
theorem ty39 (cl : List (Nat × Spec)) : (E39 cl).ty = ty := rfl
theorem call39 (cl : List (Nat × Spec)) (f : Nat) (args : List V) (S : St) : (E39 cl).call f args S = callOf ([(64, v64), (63, v63 ([(64, v64)] ++ cl))] ++ cl) f args S := rfl
theorem nw39 (cl : List (Nat × Spec)) (f : Nat) : (E39 cl).news f = newsOf [] f := rfl
theorem md39 (cl : List (Nat × Spec)) (f : Nat) : (E39 cl).mode f = modeOf [] f := rfl
theorem rw39 (cl : List (Nat × Spec)) : (E39 cl).rows = false := rfl
theorem kp39 (cl : List (Nat × Spec)) (f : Nat) : (E39 cl).keep f = keepOf [(1, [6]), (0, [0, 4, 5])] f := rfl
theorem lp39 (cl : List (Nat × Spec)) (f : Nat) : (E39 cl).loops f = loopsOf [] f := rfl
theorem bx39 (cl : List (Nat × Spec)) (f : Nat) : (E39 cl).boxes f = boxesOf [] f := rfl
noncomputable def v39 (cl : List (Nat × Spec)) : Spec := fnSpec (E39 cl) 1 Tryz.f39
theorem vv39 (cl : List (Nat × Spec)) (args : List V) (S : St) : v39 cl args S = fnSpec (E39 cl) 1 Tryz.f39 args S := rfl
def u39 := And.intro @vv39 (And.intro @ty39 (And.intro @call39 (And.intro @nw39 (And.intro @md39 (And.intro @rw39 (And.intro @kp39 (And.intro @lp39 (@bx39))))))))
theorem ok39 (cl : List (Nat × Spec)) (hcl : ∀ p ∈ cl, SoundAt Tryz.prog p.1 p.2) : SoundAt Tryz.prog 39 (v39 cl) := soundAt_of mixed tyOk rfl (by intro p hp; simp only [List.cons_append, List.nil_append, List.mem_cons, List.mem_append, List.not_mem_nil, or_false] at hp; rcases hp with rfl | rfl | hp <;> first | exact ok64 | exact ok63 _ (fun p hp => by simp only [List.cons_append, List.nil_append, List.mem_cons, List.mem_append, List.not_mem_nil, or_false] at hp; rcases hp with rfl | hp <;> first | exact ok64 | exact hcl p hp) | exact hcl p hp) (f := 39) (fn := Tryz.f39) (by kernel_rfl) (by kernel_rfl) (by kernel_rfl) _

/-! 13: stevedore/label.Match (2 parameters) -/
noncomputable def E13 : Env := { ty := ty, call := callOf ([]), news := newsOf [], mode := modeOf [], rows := false, keep := keepOf [(7, [4]), (6, [0, 7, 8, 9]), (5, [4]), (4, [0, 7, 8, 9, 16]), (3, [0, 6, 7, 8, 9]), (2, [0, 7, 8, 9, 10]), (1, [0, 7, 8, 9]), (0, [0, 1])], loops := loopsOf [(2, ([0, 7, 8, 9], []))], boxes := boxesOf [] }
theorem ty13 : (E13).ty = ty := rfl
theorem call13 (f : Nat) (args : List V) (S : St) : (E13).call f args S = callOf ([]) f args S := rfl
theorem nw13 (f : Nat) : (E13).news f = newsOf [] f := rfl
theorem md13 (f : Nat) : (E13).mode f = modeOf [] f := rfl
theorem rw13 : (E13).rows = false := rfl
theorem kp13 (f : Nat) : (E13).keep f = keepOf [(7, [4]), (6, [0, 7, 8, 9]), (5, [4]), (4, [0, 7, 8, 9, 16]), (3, [0, 6, 7, 8, 9]), (2, [0, 7, 8, 9, 10]), (1, [0, 7, 8, 9]), (0, [0, 1])] f := rfl
theorem lp13 (f : Nat) : (E13).loops f = loopsOf [(2, ([0, 7, 8, 9], []))] f := rfl
theorem bx13 (f : Nat) : (E13).boxes f = boxesOf [] f := rfl
noncomputable def v13 : Spec := fnSpec (E13) 1 Tryz.f13
theorem vv13 (args : List V) (S : St) : v13 args S = fnSpec (E13) 1 Tryz.f13 args S := rfl
def u13 := And.intro @vv13 (And.intro @ty13 (And.intro @call13 (And.intro @nw13 (And.intro @md13 (And.intro @rw13 (And.intro @kp13 (And.intro @lp13 (@bx13))))))))
theorem ok13 : SoundAt Tryz.prog 13 (v13) := soundAt_of mixed tyOk rfl (by intro p hp; simp at hp) (f := 13) (fn := Tryz.f13) (by kernel_rfl) (by kernel_rfl) (by kernel_rfl) _

/-! 67: (*stevedore/volume.planner).meets (2 parameters) -/
noncomputable def E67 : Env := { ty := ty, call := callOf ([(13, v13)]), news := newsOf [], mode := modeOf [], rows := false, keep := keepOf [(1, [4]), (0, [0, 3])], loops := loopsOf [], boxes := boxesOf [] }
theorem ty67 : (E67).ty = ty := rfl
theorem call67 (f : Nat) (args : List V) (S : St) : (E67).call f args S = callOf ([(13, v13)]) f args S := rfl
theorem nw67 (f : Nat) : (E67).news f = newsOf [] f := rfl
theorem md67 (f : Nat) : (E67).mode f = modeOf [] f := rfl
theorem rw67 : (E67).rows = false := rfl
theorem kp67 (f : Nat) : (E67).keep f = keepOf [(1, [4]), (0, [0, 3])] f := rfl
theorem lp67 (f : Nat) : (E67).loops f = loopsOf [] f := rfl
theorem bx67 (f : Nat) : (E67).boxes f = boxesOf [] f := rfl
noncomputable def v67 : Spec := fnSpec (E67) 1 Tryz.f67
theorem vv67 (args : List V) (S : St) : v67 args S = fnSpec (E67) 1 Tryz.f67 args S := rfl
def u67 := And.intro @vv67 (And.intro @ty67 (And.intro @call67 (And.intro @nw67 (And.intro @md67 (And.intro @rw67 (And.intro @kp67 (And.intro @lp67 (@bx67))))))))
theorem ok67 : SoundAt Tryz.prog 67 (v67) := soundAt_of mixed tyOk rfl (by intro p hp; simp only [List.cons_append, List.nil_append, List.mem_cons, List.mem_append, List.not_mem_nil, or_false] at hp; rcases hp with rfl <;> first | exact ok13) (f := 67) (fn := Tryz.f67) (by kernel_rfl) (by kernel_rfl) (by kernel_rfl) _

/-! 48: (*stevedore/volume.planner).has (2 parameters) -/
noncomputable def E48 : Env := { ty := ty, call := callOf ([(39, v39 ([(40, v40)])), (67, v67), (40, v40)]), news := newsOf [], mode := modeOf [(39, 1)], rows := false, keep := keepOf [(6, [4]), (3, [4]), (5, [4]), (4, [31]), (2, [0, 5, 14]), (1, [0, 3, 5]), (0, [0, 3])], loops := loopsOf [], boxes := boxesOf [] }
theorem ty48 : (E48).ty = ty := rfl
theorem call48 (f : Nat) (args : List V) (S : St) : (E48).call f args S = callOf ([(39, v39 ([(40, v40)])), (67, v67), (40, v40)]) f args S := rfl
theorem nw48 (f : Nat) : (E48).news f = newsOf [] f := rfl
theorem md48 (f : Nat) : (E48).mode f = modeOf [(39, 1)] f := rfl
theorem rw48 : (E48).rows = false := rfl
theorem kp48 (f : Nat) : (E48).keep f = keepOf [(6, [4]), (3, [4]), (5, [4]), (4, [31]), (2, [0, 5, 14]), (1, [0, 3, 5]), (0, [0, 3])] f := rfl
theorem lp48 (f : Nat) : (E48).loops f = loopsOf [] f := rfl
theorem bx48 (f : Nat) : (E48).boxes f = boxesOf [] f := rfl
noncomputable def v48 : Spec := fnSpec (E48) 1 Tryz.f48
theorem vv48 (args : List V) (S : St) : v48 args S = fnSpec (E48) 1 Tryz.f48 args S := rfl
def u48 := And.intro @vv48 (And.intro @ty48 (And.intro @call48 (And.intro @nw48 (And.intro @md48 (And.intro @rw48 (And.intro @kp48 (And.intro @lp48 (@bx48))))))))
theorem ok48 : SoundAt Tryz.prog 48 (v48) := soundAt_of mixed tyOk rfl (by intro p hp; simp only [List.cons_append, List.nil_append, List.mem_cons, List.mem_append, List.not_mem_nil, or_false] at hp; rcases hp with rfl | rfl | rfl <;> first | exact ok39 _ (fun p hp => by simp only [List.cons_append, List.nil_append, List.mem_cons, List.mem_append, List.not_mem_nil, or_false] at hp; rcases hp with rfl <;> first | exact ok40) | exact ok67 | exact ok40) (f := 48) (fn := Tryz.f48) (by kernel_rfl) (by kernel_rfl) (by kernel_rfl) _

/-! 69: stevedore/volume.className (1 parameters) -/
noncomputable def E69 : Env := { ty := ty, call := callOf ([]), news := newsOf [], mode := modeOf [], rows := false, keep := keepOf [(1, [2]), (0, [1])], loops := loopsOf [], boxes := boxesOf [] }
theorem ty69 : (E69).ty = ty := rfl
theorem call69 (f : Nat) (args : List V) (S : St) : (E69).call f args S = callOf ([]) f args S := rfl
theorem nw69 (f : Nat) : (E69).news f = newsOf [] f := rfl
theorem md69 (f : Nat) : (E69).mode f = modeOf [] f := rfl
theorem rw69 : (E69).rows = false := rfl
theorem kp69 (f : Nat) : (E69).keep f = keepOf [(1, [2]), (0, [1])] f := rfl
theorem lp69 (f : Nat) : (E69).loops f = loopsOf [] f := rfl
theorem bx69 (f : Nat) : (E69).boxes f = boxesOf [] f := rfl
noncomputable def v69 : Spec := fnSpec (E69) 1 Tryz.f69
theorem vv69 (args : List V) (S : St) : v69 args S = fnSpec (E69) 1 Tryz.f69 args S := rfl
def u69 := And.intro @vv69 (And.intro @ty69 (And.intro @call69 (And.intro @nw69 (And.intro @md69 (And.intro @rw69 (And.intro @kp69 (And.intro @lp69 (@bx69))))))))
theorem ok69 : SoundAt Tryz.prog 69 (v69) := soundAt_of mixed tyOk rfl (by intro p hp; simp at hp) (f := 69) (fn := Tryz.f69) (by kernel_rfl) (by kernel_rfl) (by kernel_rfl) _

/-! 97: stevedore/volume.by[stevedore/api.Class]$1 (1 parameters) -/
noncomputable def E97 : Env := { ty := ty, call := callOf ([(69, v69)]), news := newsOf [], mode := modeOf [], rows := false, keep := keepOf [(1, [4]), (0, [1, 2, 3])], loops := loopsOf [], boxes := boxesOf [] }
theorem ty97 : (E97).ty = ty := rfl
theorem call97 (f : Nat) (args : List V) (S : St) : (E97).call f args S = callOf ([(69, v69)]) f args S := rfl
theorem nw97 (f : Nat) : (E97).news f = newsOf [] f := rfl
theorem md97 (f : Nat) : (E97).mode f = modeOf [] f := rfl
theorem rw97 : (E97).rows = false := rfl
theorem kp97 (f : Nat) : (E97).keep f = keepOf [(1, [4]), (0, [1, 2, 3])] f := rfl
theorem lp97 (f : Nat) : (E97).loops f = loopsOf [] f := rfl
theorem bx97 (f : Nat) : (E97).boxes f = boxesOf [] f := rfl
noncomputable def v97 : Spec := fnSpec (E97) 1 Tryz.f97
theorem vv97 (args : List V) (S : St) : v97 args S = fnSpec (E97) 1 Tryz.f97 args S := rfl
def u97 := And.intro @vv97 (And.intro @ty97 (And.intro @call97 (And.intro @nw97 (And.intro @md97 (And.intro @rw97 (And.intro @kp97 (And.intro @lp97 (@bx97))))))))
theorem ok97 : SoundAt Tryz.prog 97 (v97) := soundAt_of mixed tyOk rfl (by intro p hp; simp only [List.cons_append, List.nil_append, List.mem_cons, List.mem_append, List.not_mem_nil, or_false] at hp; rcases hp with rfl <;> first | exact ok69) (f := 97) (fn := Tryz.f97) (by kernel_rfl) (by kernel_rfl) (by kernel_rfl) _

/-! 96: slices.IndexFunc[[]stevedore/api.Class,stevedore/api.Class] (2 parameters) -/
noncomputable def E96 (cl : List (Nat × Spec)) : Env := { ty := ty, call := callOf ([] ++ cl), news := newsOf [], mode := modeOf [], rows := false, keep := keepOf [(7, [4]), (6, [0, 1, 7, 8]), (5, [4]), (4, [0, 1, 5, 7, 8, 16]), (3, [0, 1, 5, 7, 8]), (2, [0, 1, 7, 8, 9]), (1, [0, 1, 7, 8]), (0, [0, 1])], loops := loopsOf [(2, ([0, 1, 7, 8], []))], boxes := boxesOf [] }
theorem ty96 (cl : List (Nat × Spec)) : (E96 cl).ty = ty := rfl
theorem call96 (cl : List (Nat × Spec)) (f : Nat) (args : List V) (S : St) : (E96 cl).call f args S = callOf ([] ++ cl) f args S := rfl
theorem nw96 (cl : List (Nat × Spec)) (f : Nat) : (E96 cl).news f = newsOf [] f := rfl
theorem md96 (cl : List (Nat × Spec)) (f : Nat) : (E96 cl).mode f = modeOf [] f := rfl
theorem rw96 (cl : List (Nat × Spec)) : (E96 cl).rows = false := rfl
theorem kp96 (cl : List (Nat × Spec)) (f : Nat) : (E96 cl).keep f = keepOf [(7, [4]), (6, [0, 1, 7, 8]), (5, [4]), (4, [0, 1, 5, 7, 8, 16]), (3, [0, 1, 5, 7, 8]), (2, [0, 1, 7, 8, 9]), (1, [0, 1, 7, 8]), (0, [0, 1])] f := rfl
theorem lp96 (cl : List (Nat × Spec)) (f : Nat) : (E96 cl).loops f = loopsOf [(2, ([0, 1, 7, 8], []))] f := rfl
theorem bx96 (cl : List (Nat × Spec)) (f : Nat) : (E96 cl).boxes f = boxesOf [] f := rfl
noncomputable def v96 (cl : List (Nat × Spec)) : Spec := fnSpec (E96 cl) 1 Tryz.f96
theorem vv96 (cl : List (Nat × Spec)) (args : List V) (S : St) : v96 cl args S = fnSpec (E96 cl) 1 Tryz.f96 args S := rfl
def u96 := And.intro @vv96 (And.intro @ty96 (And.intro @call96 (And.intro @nw96 (And.intro @md96 (And.intro @rw96 (And.intro @kp96 (And.intro @lp96 (@bx96))))))))
theorem ok96 (cl : List (Nat × Spec)) (hcl : ∀ p ∈ cl, SoundAt Tryz.prog p.1 p.2) : SoundAt Tryz.prog 96 (v96 cl) := soundAt_of mixed tyOk rfl (by intro p hp; simp only [List.cons_append, List.nil_append, List.mem_cons, List.mem_append, List.not_mem_nil, or_false] at hp; rcases hp with hp <;> first | exact hcl p hp) (f := 96) (fn := Tryz.f96) (by kernel_rfl) (by kernel_rfl) (by kernel_rfl) _

/-! 68: stevedore/volume.by[stevedore/api.Class] (3 parameters) -/
noncomputable def E68 (cl : List (Nat × Spec)) : Env := { ty := ty, call := callOf ([(97, v97), (96, v96 ([(97, v97)] ++ cl))] ++ cl), news := newsOf [], mode := modeOf [], rows := false, keep := keepOf [(1, [6]), (0, [0, 4, 5])], loops := loopsOf [], boxes := boxesOf [] }
theorem ty68 (cl : List (Nat × Spec)) : (E68 cl).ty = ty := rfl
theorem call68 (cl : List (Nat × Spec)) (f : Nat) (args : List V) (S : St) : (E68 cl).call f args S = callOf ([(97, v97), (96, v96 ([(97, v97)] ++ cl))] ++ cl) f args S := rfl
theorem nw68 (cl : List (Nat × Spec)) (f : Nat) : (E68 cl).news f = newsOf [] f := rfl
theorem md68 (cl : List (Nat × Spec)) (f : Nat) : (E68 cl).mode f = modeOf [] f := rfl
theorem rw68 (cl : List (Nat × Spec)) : (E68 cl).rows = false := rfl
theorem kp68 (cl : List (Nat × Spec)) (f : Nat) : (E68 cl).keep f = keepOf [(1, [6]), (0, [0, 4, 5])] f := rfl
theorem lp68 (cl : List (Nat × Spec)) (f : Nat) : (E68 cl).loops f = loopsOf [] f := rfl
theorem bx68 (cl : List (Nat × Spec)) (f : Nat) : (E68 cl).boxes f = boxesOf [] f := rfl
noncomputable def v68 (cl : List (Nat × Spec)) : Spec := fnSpec (E68 cl) 1 Tryz.f68
theorem vv68 (cl : List (Nat × Spec)) (args : List V) (S : St) : v68 cl args S = fnSpec (E68 cl) 1 Tryz.f68 args S := rfl
def u68 := And.intro @vv68 (And.intro @ty68 (And.intro @call68 (And.intro @nw68 (And.intro @md68 (And.intro @rw68 (And.intro @kp68 (And.intro @lp68 (@bx68))))))))
theorem ok68 (cl : List (Nat × Spec)) (hcl : ∀ p ∈ cl, SoundAt Tryz.prog p.1 p.2) : SoundAt Tryz.prog 68 (v68 cl) := soundAt_of mixed tyOk rfl (by intro p hp; simp only [List.cons_append, List.nil_append, List.mem_cons, List.mem_append, List.not_mem_nil, or_false] at hp; rcases hp with rfl | rfl | hp <;> first | exact ok97 | exact ok96 _ (fun p hp => by simp only [List.cons_append, List.nil_append, List.mem_cons, List.mem_append, List.not_mem_nil, or_false] at hp; rcases hp with rfl | hp <;> first | exact ok97 | exact hcl p hp) | exact hcl p hp) (f := 68) (fn := Tryz.f68) (by kernel_rfl) (by kernel_rfl) (by kernel_rfl) _

/-! 71: slices.Clone[[]stevedore/api.Volume,stevedore/api.Volume] (1 parameters) -/
noncomputable def E71 : Env := { ty := ty, call := callOf ([]), news := newsOf [], mode := modeOf [], rows := true, keep := keepOf [(3, [2]), (2, [2]), (1, [0, 4]), (0, [0])], loops := loopsOf [], boxes := boxesOf [] }
theorem ty71 : (E71).ty = ty := rfl
theorem call71 (f : Nat) (args : List V) (S : St) : (E71).call f args S = callOf ([]) f args S := rfl
theorem nw71 (f : Nat) : (E71).news f = newsOf [] f := rfl
theorem md71 (f : Nat) : (E71).mode f = modeOf [] f := rfl
theorem rw71 : (E71).rows = true := rfl
theorem kp71 (f : Nat) : (E71).keep f = keepOf [(3, [2]), (2, [2]), (1, [0, 4]), (0, [0])] f := rfl
theorem lp71 (f : Nat) : (E71).loops f = loopsOf [] f := rfl
theorem bx71 (f : Nat) : (E71).boxes f = boxesOf [] f := rfl
noncomputable def wv71 : Spec := fnSpec (E71) 0 Tryz.f71
theorem vv71 (args : List V) (S : St) : wv71 args S = fnSpec (E71) 0 Tryz.f71 args S := rfl
def wu71 := And.intro @vv71 (And.intro @ty71 (And.intro @call71 (And.intro @nw71 (And.intro @md71 (And.intro @rw71 (And.intro @kp71 (And.intro @lp71 (@bx71))))))))
theorem wok71 : SoundAt Tryz.prog 71 (wv71) := soundAt_of mixed tyOk rfl (by intro p hp; simp at hp) (f := 71) (fn := Tryz.f71) (by kernel_rfl) (by kernel_rfl) (by kernel_rfl) _
theorem cl71_1 (x : D) (r : List D) (hall : (x :: r).all (fun x => x.cells.length == 5) = true) (hlen : (x :: r).length ≤ 2147483648) : wv71 [.d (.sl (x :: r))] [] = some (.sl 0 0 (x :: r).length, [.row 48 5 (x :: r)]) := by
  have hlen' : r.length ≤ 2147483647 := by simp at hlen; omega
  rw [List.all_cons] at hall
  simp only [wu71, Tryz.f71, sm, tys, Nat.reduceAdd, Nat.reduceSub, Nat.reduceEqDiff, Nat.reduceLeDiff, Nat.reduceLT, Nat.reduceMul, Nat.reduceBEq, ↓reduceIte, reduceCtorEq, Int.reduceLT, Int.reduceLE, Int.reduceGT, Int.reduceGE, Int.reduceBEq, Int.reduceBNe, Int.reduceEq, Int.reduceNe, Int.reduceAdd, Int.reduceSub, Int.reduceMul, Int.reduceNeg, Int.reduceToNat, hall, hlen']
theorem cl71_2 : wv71 [.nil] [] = some (.nil, []) := by
  simp only [wu71, Tryz.f71, sm, tys, Nat.reduceAdd, Nat.reduceSub, Nat.reduceEqDiff, Nat.reduceLeDiff, Nat.reduceLT, Nat.reduceMul, Nat.reduceBEq, ↓reduceIte, reduceCtorEq, Int.reduceLT, Int.reduceLE, Int.reduceGT, Int.reduceGE, Int.reduceBEq, Int.reduceBNe, Int.reduceEq, Int.reduceNe, Int.reduceAdd, Int.reduceSub, Int.reduceMul, Int.reduceNeg, Int.reduceToNat]
theorem cl71_3 : wv71 [.emp] [] = some (.sl 0 0 0, [.row 48 5 []]) := by
  simp only [wu71, Tryz.f71, sm, tys, Nat.reduceAdd, Nat.reduceSub, Nat.reduceEqDiff, Nat.reduceLeDiff, Nat.reduceLT, Nat.reduceMul, Nat.reduceBEq, ↓reduceIte, reduceCtorEq, Int.reduceLT, Int.reduceLE, Int.reduceGT, Int.reduceGE, Int.reduceBEq, Int.reduceBNe, Int.reduceEq, Int.reduceNe, Int.reduceAdd, Int.reduceSub, Int.reduceMul, Int.reduceNeg, Int.reduceToNat]
theorem cl71_4 (xs : List D) (lo n : Nat) (hn : 0 < n) (hall : ((xs.drop lo).take n).all (fun x => x.cells.length == 5) = true) (hlen : ((xs.drop lo).take n).length = n) (hmax : n ≤ 2147483648) : wv71 [.sl 0 lo n] [.row 48 5 xs] = some (.sl 1 0 n, [.row 48 5 xs, .row 48 5 ((xs.drop lo).take n)]) := by
  generalize hys : ((xs.drop lo).take n) = ys at *
  simp only [wu71, Tryz.f71, sm, tys, Nat.reduceAdd, Nat.reduceSub, Nat.reduceEqDiff, Nat.reduceLeDiff, Nat.reduceLT, Nat.reduceMul, Nat.reduceBEq, ↓reduceIte, reduceCtorEq, Int.reduceLT, Int.reduceLE, Int.reduceGT, Int.reduceGE, Int.reduceBEq, Int.reduceBNe, Int.reduceEq, Int.reduceNe, Int.reduceAdd, Int.reduceSub, Int.reduceMul, Int.reduceNeg, Int.reduceToNat, hn, hall, hlen, hmax, hys]
theorem cl71_5 (xs : List D) : wv71 [.nil] [.row 48 5 xs] = some (.nil, [.row 48 5 xs]) := by
  simp only [wu71, Tryz.f71, sm, tys, Nat.reduceAdd, Nat.reduceSub, Nat.reduceEqDiff, Nat.reduceLeDiff, Nat.reduceLT, Nat.reduceMul, Nat.reduceBEq, ↓reduceIte, reduceCtorEq, Int.reduceLT, Int.reduceLE, Int.reduceGT, Int.reduceGE, Int.reduceBEq, Int.reduceBNe, Int.reduceEq, Int.reduceNe, Int.reduceAdd, Int.reduceSub, Int.reduceMul, Int.reduceNeg, Int.reduceToNat]
theorem cl71_6 (xs : List D) : wv71 [.emp] [.row 48 5 xs] = some (.sl 1 0 0, [.row 48 5 xs, .row 48 5 []]) := by
  simp only [wu71, Tryz.f71, sm, tys, Nat.reduceAdd, Nat.reduceSub, Nat.reduceEqDiff, Nat.reduceLeDiff, Nat.reduceLT, Nat.reduceMul, Nat.reduceBEq, ↓reduceIte, reduceCtorEq, Int.reduceLT, Int.reduceLE, Int.reduceGT, Int.reduceGE, Int.reduceBEq, Int.reduceBNe, Int.reduceEq, Int.reduceNe, Int.reduceAdd, Int.reduceSub, Int.reduceMul, Int.reduceNeg, Int.reduceToNat]
noncomputable def v71 : Spec := cloneSpec true 48 5
theorem vc71 (xs : List D) : v71 [.d (.sl xs)] [] = if xs.all (fun x => x.cells.length == 5) then (if xs.length ≤ 2147483648 then some (.sl 0 0 xs.length, [.row 48 5 xs]) else none) else none := rfl
def u71 := @vc71
theorem vcl71 (xs : List D) (h1 : xs.all (fun x => x.cells.length == 5) = true) (h3 : xs.length ≤ 2147483648) : v71 [.sl 0 0 xs.length] [.row 48 5 xs] = some (.sl 1 0 xs.length, [.row 48 5 xs, .row 48 5 xs]) := clone_all true 48 5 xs h1 h3
theorem ok71 : SoundAt Tryz.prog 71 v71 := clone_sound (rows := true) (e := 48) (sz := 5) wok71 cl71_1 cl71_2 cl71_3 cl71_4 cl71_5 cl71_6

/-! 99: (*stevedore/volume.planner).open$1 (1 parameters) -/
noncomputable def E99 : Env := { ty := ty, call := callOf ([]), news := newsOf [], mode := modeOf [], rows := false, keep := keepOf [(1, [3]), (0, [1, 2])], loops := loopsOf [], boxes := boxesOf [] }
theorem ty99 : (E99).ty = ty := rfl
theorem call99 (f : Nat) (args : List V) (S : St) : (E99).call f args S = callOf ([]) f args S := rfl
theorem nw99 (f : Nat) : (E99).news f = newsOf [] f := rfl
theorem md99 (f : Nat) : (E99).mode f = modeOf [] f := rfl
theorem rw99 : (E99).rows = false := rfl
theorem kp99 (f : Nat) : (E99).keep f = keepOf [(1, [3]), (0, [1, 2])] f := rfl
theorem lp99 (f : Nat) : (E99).loops f = loopsOf [] f := rfl
theorem bx99 (f : Nat) : (E99).boxes f = boxesOf [] f := rfl
noncomputable def v99 : Spec := fnSpec (E99) 1 Tryz.f99
theorem vv99 (args : List V) (S : St) : v99 args S = fnSpec (E99) 1 Tryz.f99 args S := rfl
def u99 := And.intro @vv99 (And.intro @ty99 (And.intro @call99 (And.intro @nw99 (And.intro @md99 (And.intro @rw99 (And.intro @kp99 (And.intro @lp99 (@bx99))))))))
theorem ok99 : SoundAt Tryz.prog 99 (v99) := soundAt_of mixed tyOk rfl (by intro p hp; simp at hp) (f := 99) (fn := Tryz.f99) (by kernel_rfl) (by kernel_rfl) (by kernel_rfl) _

/-! 111: slices.IndexFunc[[]stevedore/api.Pick,stevedore/api.Pick] (2 parameters) -/
noncomputable def E111 (cl : List (Nat × Spec)) : Env := { ty := ty, call := callOf ([] ++ cl), news := newsOf [], mode := modeOf [], rows := false, keep := keepOf [(7, [4]), (6, [0, 1, 7, 8]), (5, [4]), (4, [0, 1, 5, 7, 8, 16]), (3, [0, 1, 5, 7, 8]), (2, [0, 1, 7, 8, 9]), (1, [0, 1, 7, 8]), (0, [0, 1])], loops := loopsOf [(2, ([0, 1, 7, 8], []))], boxes := boxesOf [] }
theorem ty111 (cl : List (Nat × Spec)) : (E111 cl).ty = ty := rfl
theorem call111 (cl : List (Nat × Spec)) (f : Nat) (args : List V) (S : St) : (E111 cl).call f args S = callOf ([] ++ cl) f args S := rfl
theorem nw111 (cl : List (Nat × Spec)) (f : Nat) : (E111 cl).news f = newsOf [] f := rfl
theorem md111 (cl : List (Nat × Spec)) (f : Nat) : (E111 cl).mode f = modeOf [] f := rfl
theorem rw111 (cl : List (Nat × Spec)) : (E111 cl).rows = false := rfl
theorem kp111 (cl : List (Nat × Spec)) (f : Nat) : (E111 cl).keep f = keepOf [(7, [4]), (6, [0, 1, 7, 8]), (5, [4]), (4, [0, 1, 5, 7, 8, 16]), (3, [0, 1, 5, 7, 8]), (2, [0, 1, 7, 8, 9]), (1, [0, 1, 7, 8]), (0, [0, 1])] f := rfl
theorem lp111 (cl : List (Nat × Spec)) (f : Nat) : (E111 cl).loops f = loopsOf [(2, ([0, 1, 7, 8], []))] f := rfl
theorem bx111 (cl : List (Nat × Spec)) (f : Nat) : (E111 cl).boxes f = boxesOf [] f := rfl
noncomputable def v111 (cl : List (Nat × Spec)) : Spec := fnSpec (E111 cl) 1 Tryz.f111
theorem vv111 (cl : List (Nat × Spec)) (args : List V) (S : St) : v111 cl args S = fnSpec (E111 cl) 1 Tryz.f111 args S := rfl
def u111 := And.intro @vv111 (And.intro @ty111 (And.intro @call111 (And.intro @nw111 (And.intro @md111 (And.intro @rw111 (And.intro @kp111 (And.intro @lp111 (@bx111))))))))
theorem ok111 (cl : List (Nat × Spec)) (hcl : ∀ p ∈ cl, SoundAt Tryz.prog p.1 p.2) : SoundAt Tryz.prog 111 (v111 cl) := soundAt_of mixed tyOk rfl (by intro p hp; simp only [List.cons_append, List.nil_append, List.mem_cons, List.mem_append, List.not_mem_nil, or_false] at hp; rcases hp with hp <;> first | exact hcl p hp) (f := 111) (fn := Tryz.f111) (by kernel_rfl) (by kernel_rfl) (by kernel_rfl) _

/-! 98: slices.ContainsFunc[[]stevedore/api.Pick,stevedore/api.Pick] (2 parameters) -/
noncomputable def E98 (cl : List (Nat × Spec)) : Env := { ty := ty, call := callOf ([(111, v111 cl)] ++ cl), news := newsOf [], mode := modeOf [], rows := false, keep := keepOf [(1, [4]), (0, [0, 1])], loops := loopsOf [], boxes := boxesOf [] }
theorem ty98 (cl : List (Nat × Spec)) : (E98 cl).ty = ty := rfl
theorem call98 (cl : List (Nat × Spec)) (f : Nat) (args : List V) (S : St) : (E98 cl).call f args S = callOf ([(111, v111 cl)] ++ cl) f args S := rfl
theorem nw98 (cl : List (Nat × Spec)) (f : Nat) : (E98 cl).news f = newsOf [] f := rfl
theorem md98 (cl : List (Nat × Spec)) (f : Nat) : (E98 cl).mode f = modeOf [] f := rfl
theorem rw98 (cl : List (Nat × Spec)) : (E98 cl).rows = false := rfl
theorem kp98 (cl : List (Nat × Spec)) (f : Nat) : (E98 cl).keep f = keepOf [(1, [4]), (0, [0, 1])] f := rfl
theorem lp98 (cl : List (Nat × Spec)) (f : Nat) : (E98 cl).loops f = loopsOf [] f := rfl
theorem bx98 (cl : List (Nat × Spec)) (f : Nat) : (E98 cl).boxes f = boxesOf [] f := rfl
noncomputable def v98 (cl : List (Nat × Spec)) : Spec := fnSpec (E98 cl) 1 Tryz.f98
theorem vv98 (cl : List (Nat × Spec)) (args : List V) (S : St) : v98 cl args S = fnSpec (E98 cl) 1 Tryz.f98 args S := rfl
def u98 := And.intro @vv98 (And.intro @ty98 (And.intro @call98 (And.intro @nw98 (And.intro @md98 (And.intro @rw98 (And.intro @kp98 (And.intro @lp98 (@bx98))))))))
theorem ok98 (cl : List (Nat × Spec)) (hcl : ∀ p ∈ cl, SoundAt Tryz.prog p.1 p.2) : SoundAt Tryz.prog 98 (v98 cl) := soundAt_of mixed tyOk rfl (by intro p hp; simp only [List.cons_append, List.nil_append, List.mem_cons, List.mem_append, List.not_mem_nil, or_false] at hp; rcases hp with rfl | hp <;> first | exact ok111 cl hcl | exact hcl p hp) (f := 98) (fn := Tryz.f98) (by kernel_rfl) (by kernel_rfl) (by kernel_rfl) _

/-! 73: (*stevedore/volume.planner).open (3 parameters) -/
noncomputable def E73 : Env := { ty := ty, call := callOf ([(99, v99), (98, v98 ([(99, v99)])), (67, v67)]), news := newsOf [], mode := modeOf [], rows := false, keep := keepOf [(2, [6]), (1, [0, 4, 5, 7]), (0, [0, 4, 5])], loops := loopsOf [], boxes := boxesOf [] }
theorem ty73 : (E73).ty = ty := rfl
theorem call73 (f : Nat) (args : List V) (S : St) : (E73).call f args S = callOf ([(99, v99), (98, v98 ([(99, v99)])), (67, v67)]) f args S := rfl
theorem nw73 (f : Nat) : (E73).news f = newsOf [] f := rfl
theorem md73 (f : Nat) : (E73).mode f = modeOf [] f := rfl
theorem rw73 : (E73).rows = false := rfl
theorem kp73 (f : Nat) : (E73).keep f = keepOf [(2, [6]), (1, [0, 4, 5, 7]), (0, [0, 4, 5])] f := rfl
theorem lp73 (f : Nat) : (E73).loops f = loopsOf [] f := rfl
theorem bx73 (f : Nat) : (E73).boxes f = boxesOf [] f := rfl
noncomputable def v73 : Spec := fnSpec (E73) 1 Tryz.f73
theorem vv73 (args : List V) (S : St) : v73 args S = fnSpec (E73) 1 Tryz.f73 args S := rfl
def u73 := And.intro @vv73 (And.intro @ty73 (And.intro @call73 (And.intro @nw73 (And.intro @md73 (And.intro @rw73 (And.intro @kp73 (And.intro @lp73 (@bx73))))))))
theorem ok73 : SoundAt Tryz.prog 73 (v73) := soundAt_of mixed tyOk rfl (by intro p hp; simp only [List.cons_append, List.nil_append, List.mem_cons, List.mem_append, List.not_mem_nil, or_false] at hp; rcases hp with rfl | rfl | rfl <;> first | exact ok99 | exact ok98 _ (fun p hp => by simp only [List.cons_append, List.nil_append, List.mem_cons, List.mem_append, List.not_mem_nil, or_false] at hp; rcases hp with rfl <;> first | exact ok99) | exact ok67) (f := 73) (fn := Tryz.f73) (by kernel_rfl) (by kernel_rfl) (by kernel_rfl) _

/-! 72: (*stevedore/volume.planner).gets$1 (1 parameters) -/
noncomputable def E72 : Env := { ty := ty, call := callOf ([(73, v73)]), news := newsOf [], mode := modeOf [], rows := false, keep := keepOf [(1, [4]), (0, [1, 2, 3])], loops := loopsOf [], boxes := boxesOf [] }
theorem ty72 : (E72).ty = ty := rfl
theorem call72 (f : Nat) (args : List V) (S : St) : (E72).call f args S = callOf ([(73, v73)]) f args S := rfl
theorem nw72 (f : Nat) : (E72).news f = newsOf [] f := rfl
theorem md72 (f : Nat) : (E72).mode f = modeOf [] f := rfl
theorem rw72 : (E72).rows = false := rfl
theorem kp72 (f : Nat) : (E72).keep f = keepOf [(1, [4]), (0, [1, 2, 3])] f := rfl
theorem lp72 (f : Nat) : (E72).loops f = loopsOf [] f := rfl
theorem bx72 (f : Nat) : (E72).boxes f = boxesOf [] f := rfl
noncomputable def v72 : Spec := fnSpec (E72) 1 Tryz.f72
theorem vv72 (args : List V) (S : St) : v72 args S = fnSpec (E72) 1 Tryz.f72 args S := rfl
def u72 := And.intro @vv72 (And.intro @ty72 (And.intro @call72 (And.intro @nw72 (And.intro @md72 (And.intro @rw72 (And.intro @kp72 (And.intro @lp72 (@bx72))))))))
theorem ok72 : SoundAt Tryz.prog 72 (v72) := soundAt_of mixed tyOk rfl (by intro p hp; simp only [List.cons_append, List.nil_append, List.mem_cons, List.mem_append, List.not_mem_nil, or_false] at hp; rcases hp with rfl <;> first | exact ok73) (f := 72) (fn := Tryz.f72) (by kernel_rfl) (by kernel_rfl) (by kernel_rfl) _

/-! 70: slices.DeleteFunc[[]stevedore/api.Volume,stevedore/api.Volume] (2 parameters) -/
noncomputable def E70 (cl : List (Nat × Spec)) : Env := { ty := ty, call := callOf ([(63, v63 cl)] ++ cl), news := newsOf [], mode := modeOf [], rows := false, keep := keepOf [(12, [4]), (11, [0, 5]), (6, [0, 1, 5, 6]), (10, [0, 1, 5, 6]), (9, [0, 1, 5, 6]), (8, [0, 1, 5, 6, 7, 29]), (7, [0, 1, 5, 6, 7]), (5, [0, 1, 5, 6, 19]), (4, [0, 1, 5, 6]), (3, [4]), (2, [0, 1, 5, 12]), (1, [0, 1, 5]), (0, [0, 1])], loops := loopsOf [(5, ([0, 1, 5, 6], []))], boxes := boxesOf [] }
theorem ty70 (cl : List (Nat × Spec)) : (E70 cl).ty = ty := rfl
theorem call70 (cl : List (Nat × Spec)) (f : Nat) (args : List V) (S : St) : (E70 cl).call f args S = callOf ([(63, v63 cl)] ++ cl) f args S := rfl
theorem nw70 (cl : List (Nat × Spec)) (f : Nat) : (E70 cl).news f = newsOf [] f := rfl
theorem md70 (cl : List (Nat × Spec)) (f : Nat) : (E70 cl).mode f = modeOf [] f := rfl
theorem rw70 (cl : List (Nat × Spec)) : (E70 cl).rows = false := rfl
theorem kp70 (cl : List (Nat × Spec)) (f : Nat) : (E70 cl).keep f = keepOf [(12, [4]), (11, [0, 5]), (6, [0, 1, 5, 6]), (10, [0, 1, 5, 6]), (9, [0, 1, 5, 6]), (8, [0, 1, 5, 6, 7, 29]), (7, [0, 1, 5, 6, 7]), (5, [0, 1, 5, 6, 19]), (4, [0, 1, 5, 6]), (3, [4]), (2, [0, 1, 5, 12]), (1, [0, 1, 5]), (0, [0, 1])] f := rfl
theorem lp70 (cl : List (Nat × Spec)) (f : Nat) : (E70 cl).loops f = loopsOf [(5, ([0, 1, 5, 6], []))] f := rfl
theorem bx70 (cl : List (Nat × Spec)) (f : Nat) : (E70 cl).boxes f = boxesOf [] f := rfl
noncomputable def v70 (cl : List (Nat × Spec)) : Spec := fnSpec (E70 cl) 1 Tryz.f70
theorem vv70 (cl : List (Nat × Spec)) (args : List V) (S : St) : v70 cl args S = fnSpec (E70 cl) 1 Tryz.f70 args S := rfl
def u70 := And.intro @vv70 (And.intro @ty70 (And.intro @call70 (And.intro @nw70 (And.intro @md70 (And.intro @rw70 (And.intro @kp70 (And.intro @lp70 (@bx70))))))))
theorem ok70 (cl : List (Nat × Spec)) (hcl : ∀ p ∈ cl, SoundAt Tryz.prog p.1 p.2) : SoundAt Tryz.prog 70 (v70 cl) := soundAt_of mixed tyOk rfl (by intro p hp; simp only [List.cons_append, List.nil_append, List.mem_cons, List.mem_append, List.not_mem_nil, or_false] at hp; rcases hp with rfl | hp <;> first | exact ok63 cl hcl | exact hcl p hp) (f := 70) (fn := Tryz.f70) (by kernel_rfl) (by kernel_rfl) (by kernel_rfl) _

/-! 112: cmp.isNaN[int] (1 parameters) -/
noncomputable def E112 : Env := { ty := ty, call := callOf ([]), news := newsOf [], mode := modeOf [], rows := false, keep := keepOf [(1, [2]), (0, [0])], loops := loopsOf [], boxes := boxesOf [] }
theorem ty112 : (E112).ty = ty := rfl
theorem call112 (f : Nat) (args : List V) (S : St) : (E112).call f args S = callOf ([]) f args S := rfl
theorem nw112 (f : Nat) : (E112).news f = newsOf [] f := rfl
theorem md112 (f : Nat) : (E112).mode f = modeOf [] f := rfl
theorem rw112 : (E112).rows = false := rfl
theorem kp112 (f : Nat) : (E112).keep f = keepOf [(1, [2]), (0, [0])] f := rfl
theorem lp112 (f : Nat) : (E112).loops f = loopsOf [] f := rfl
theorem bx112 (f : Nat) : (E112).boxes f = boxesOf [] f := rfl
noncomputable def v112 : Spec := fnSpec (E112) 1 Tryz.f112
theorem vv112 (args : List V) (S : St) : v112 args S = fnSpec (E112) 1 Tryz.f112 args S := rfl
def u112 := And.intro @vv112 (And.intro @ty112 (And.intro @call112 (And.intro @nw112 (And.intro @md112 (And.intro @rw112 (And.intro @kp112 (And.intro @lp112 (@bx112))))))))
theorem ok112 : SoundAt Tryz.prog 112 (v112) := soundAt_of mixed tyOk rfl (by intro p hp; simp at hp) (f := 112) (fn := Tryz.f112) (by kernel_rfl) (by kernel_rfl) (by kernel_rfl) _

/-! 101: cmp.Compare[int] (2 parameters) -/
noncomputable def E101 : Env := { ty := ty, call := callOf ([(112, v112)]), news := newsOf [], mode := modeOf [], rows := false, keep := keepOf [(13, [4]), (12, [4]), (11, [19]), (10, [4]), (9, [0, 1, 16]), (8, [4]), (7, [0, 1, 13]), (6, [4]), (5, [4]), (4, [12]), (3, [0, 1, 6, 11]), (2, [0, 1, 5, 6]), (1, [0, 1, 5]), (0, [0, 1])], loops := loopsOf [], boxes := boxesOf [] }
theorem ty101 : (E101).ty = ty := rfl
theorem call101 (f : Nat) (args : List V) (S : St) : (E101).call f args S = callOf ([(112, v112)]) f args S := rfl
theorem nw101 (f : Nat) : (E101).news f = newsOf [] f := rfl
theorem md101 (f : Nat) : (E101).mode f = modeOf [] f := rfl
theorem rw101 : (E101).rows = false := rfl
theorem kp101 (f : Nat) : (E101).keep f = keepOf [(13, [4]), (12, [4]), (11, [19]), (10, [4]), (9, [0, 1, 16]), (8, [4]), (7, [0, 1, 13]), (6, [4]), (5, [4]), (4, [12]), (3, [0, 1, 6, 11]), (2, [0, 1, 5, 6]), (1, [0, 1, 5]), (0, [0, 1])] f := rfl
theorem lp101 (f : Nat) : (E101).loops f = loopsOf [] f := rfl
theorem bx101 (f : Nat) : (E101).boxes f = boxesOf [] f := rfl
noncomputable def v101 : Spec := fnSpec (E101) 1 Tryz.f101
theorem vv101 (args : List V) (S : St) : v101 args S = fnSpec (E101) 1 Tryz.f101 args S := rfl
def u101 := And.intro @vv101 (And.intro @ty101 (And.intro @call101 (And.intro @nw101 (And.intro @md101 (And.intro @rw101 (And.intro @kp101 (And.intro @lp101 (@bx101))))))))
theorem ok101 : SoundAt Tryz.prog 101 (v101) := soundAt_of mixed tyOk rfl (by intro p hp; simp only [List.cons_append, List.nil_append, List.mem_cons, List.mem_append, List.not_mem_nil, or_false] at hp; rcases hp with rfl <;> first | exact ok112) (f := 101) (fn := Tryz.f101) (by kernel_rfl) (by kernel_rfl) (by kernel_rfl) _

/-! 108: cmp.isNaN[string] (1 parameters) -/
noncomputable def E108 : Env := { ty := ty, call := callOf ([]), news := newsOf [], mode := modeOf [], rows := false, keep := keepOf [(1, [2]), (0, [0])], loops := loopsOf [], boxes := boxesOf [] }
theorem ty108 : (E108).ty = ty := rfl
theorem call108 (f : Nat) (args : List V) (S : St) : (E108).call f args S = callOf ([]) f args S := rfl
theorem nw108 (f : Nat) : (E108).news f = newsOf [] f := rfl
theorem md108 (f : Nat) : (E108).mode f = modeOf [] f := rfl
theorem rw108 : (E108).rows = false := rfl
theorem kp108 (f : Nat) : (E108).keep f = keepOf [(1, [2]), (0, [0])] f := rfl
theorem lp108 (f : Nat) : (E108).loops f = loopsOf [] f := rfl
theorem bx108 (f : Nat) : (E108).boxes f = boxesOf [] f := rfl
noncomputable def v108 : Spec := fnSpec (E108) 1 Tryz.f108
theorem vv108 (args : List V) (S : St) : v108 args S = fnSpec (E108) 1 Tryz.f108 args S := rfl
def u108 := And.intro @vv108 (And.intro @ty108 (And.intro @call108 (And.intro @nw108 (And.intro @md108 (And.intro @rw108 (And.intro @kp108 (And.intro @lp108 (@bx108))))))))
theorem ok108 : SoundAt Tryz.prog 108 (v108) := soundAt_of mixed tyOk rfl (by intro p hp; simp at hp) (f := 108) (fn := Tryz.f108) (by kernel_rfl) (by kernel_rfl) (by kernel_rfl) _

/-! 102: cmp.Compare[string] (2 parameters) -/
noncomputable def E102 : Env := { ty := ty, call := callOf ([(108, v108)]), news := newsOf [], mode := modeOf [], rows := false, keep := keepOf [(13, [4]), (12, [4]), (11, [19]), (10, [4]), (9, [0, 1, 16]), (8, [4]), (7, [0, 1, 13]), (6, [4]), (5, [4]), (4, [12]), (3, [0, 1, 6, 11]), (2, [0, 1, 5, 6]), (1, [0, 1, 5]), (0, [0, 1])], loops := loopsOf [], boxes := boxesOf [] }
theorem ty102 : (E102).ty = ty := rfl
theorem call102 (f : Nat) (args : List V) (S : St) : (E102).call f args S = callOf ([(108, v108)]) f args S := rfl
theorem nw102 (f : Nat) : (E102).news f = newsOf [] f := rfl
theorem md102 (f : Nat) : (E102).mode f = modeOf [] f := rfl
theorem rw102 : (E102).rows = false := rfl
theorem kp102 (f : Nat) : (E102).keep f = keepOf [(13, [4]), (12, [4]), (11, [19]), (10, [4]), (9, [0, 1, 16]), (8, [4]), (7, [0, 1, 13]), (6, [4]), (5, [4]), (4, [12]), (3, [0, 1, 6, 11]), (2, [0, 1, 5, 6]), (1, [0, 1, 5]), (0, [0, 1])] f := rfl
theorem lp102 (f : Nat) : (E102).loops f = loopsOf [] f := rfl
theorem bx102 (f : Nat) : (E102).boxes f = boxesOf [] f := rfl
noncomputable def v102 : Spec := fnSpec (E102) 1 Tryz.f102
theorem vv102 (args : List V) (S : St) : v102 args S = fnSpec (E102) 1 Tryz.f102 args S := rfl
def u102 := And.intro @vv102 (And.intro @ty102 (And.intro @call102 (And.intro @nw102 (And.intro @md102 (And.intro @rw102 (And.intro @kp102 (And.intro @lp102 (@bx102))))))))
theorem ok102 : SoundAt Tryz.prog 102 (v102) := soundAt_of mixed tyOk rfl (by intro p hp; simp only [List.cons_append, List.nil_append, List.mem_cons, List.mem_append, List.not_mem_nil, or_false] at hp; rcases hp with rfl <;> first | exact ok108) (f := 102) (fn := Tryz.f102) (by kernel_rfl) (by kernel_rfl) (by kernel_rfl) _

/-! 100: cmp.Or[int] (1 parameters) -/
noncomputable def E100 : Env := { ty := ty, call := callOf ([]), news := newsOf [], mode := modeOf [], rows := false, keep := keepOf [(8, [2]), (7, [3, 6, 7, 8]), (6, [2]), (5, [3, 5, 6, 7, 8, 14]), (4, [3, 5, 6, 7, 8]), (3, [3, 6, 7, 8, 9]), (2, [3, 6, 7, 8]), (1, [0, 3]), (0, [0])], loops := loopsOf [(3, ([3, 6, 7, 8], []))], boxes := boxesOf [] }
theorem ty100 : (E100).ty = ty := rfl
theorem call100 (f : Nat) (args : List V) (S : St) : (E100).call f args S = callOf ([]) f args S := rfl
theorem nw100 (f : Nat) : (E100).news f = newsOf [] f := rfl
theorem md100 (f : Nat) : (E100).mode f = modeOf [] f := rfl
theorem rw100 : (E100).rows = false := rfl
theorem kp100 (f : Nat) : (E100).keep f = keepOf [(8, [2]), (7, [3, 6, 7, 8]), (6, [2]), (5, [3, 5, 6, 7, 8, 14]), (4, [3, 5, 6, 7, 8]), (3, [3, 6, 7, 8, 9]), (2, [3, 6, 7, 8]), (1, [0, 3]), (0, [0])] f := rfl
theorem lp100 (f : Nat) : (E100).loops f = loopsOf [(3, ([3, 6, 7, 8], []))] f := rfl
theorem bx100 (f : Nat) : (E100).boxes f = boxesOf [] f := rfl
noncomputable def v100 : Spec := fnSpec (E100) 1 Tryz.f100
theorem vv100 (args : List V) (S : St) : v100 args S = fnSpec (E100) 1 Tryz.f100 args S := rfl
def u100 := And.intro @vv100 (And.intro @ty100 (And.intro @call100 (And.intro @nw100 (And.intro @md100 (And.intro @rw100 (And.intro @kp100 (And.intro @lp100 (@bx100))))))))
theorem ok100 : SoundAt Tryz.prog 100 (v100) := soundAt_of mixed tyOk rfl (by intro p hp; simp at hp) (f := 100) (fn := Tryz.f100) (by kernel_rfl) (by kernel_rfl) (by kernel_rfl) _

/-! 74: (*stevedore/volume.planner).smaller (3 parameters) -/
noncomputable def E74 : Env := { ty := ty, call := callOf ([(101, v101), (102, v102), (100, v100)]), news := newsOf [], mode := modeOf [], rows := false, keep := keepOf [(1, [6]), (0, [4, 5])], loops := loopsOf [], boxes := boxesOf [] }
theorem ty74 : (E74).ty = ty := rfl
theorem call74 (f : Nat) (args : List V) (S : St) : (E74).call f args S = callOf ([(101, v101), (102, v102), (100, v100)]) f args S := rfl
theorem nw74 (f : Nat) : (E74).news f = newsOf [] f := rfl
theorem md74 (f : Nat) : (E74).mode f = modeOf [] f := rfl
theorem rw74 : (E74).rows = false := rfl
theorem kp74 (f : Nat) : (E74).keep f = keepOf [(1, [6]), (0, [4, 5])] f := rfl
theorem lp74 (f : Nat) : (E74).loops f = loopsOf [] f := rfl
theorem bx74 (f : Nat) : (E74).boxes f = boxesOf [] f := rfl
noncomputable def v74 : Spec := fnSpec (E74) 1 Tryz.f74
theorem vv74 (args : List V) (S : St) : v74 args S = fnSpec (E74) 1 Tryz.f74 args S := rfl
def u74 := And.intro @vv74 (And.intro @ty74 (And.intro @call74 (And.intro @nw74 (And.intro @md74 (And.intro @rw74 (And.intro @kp74 (And.intro @lp74 (@bx74))))))))
theorem ok74 : SoundAt Tryz.prog 74 (v74) := soundAt_of mixed tyOk rfl (by intro p hp; simp only [List.cons_append, List.nil_append, List.mem_cons, List.mem_append, List.not_mem_nil, or_false] at hp; rcases hp with rfl | rfl | rfl <;> first | exact ok101 | exact ok102 | exact ok100) (f := 74) (fn := Tryz.f74) (by kernel_rfl) (by kernel_rfl) (by kernel_rfl) _

/-! 75: slices.MinFunc[[]stevedore/api.Volume,stevedore/api.Volume] (2 parameters) -/
noncomputable def E75 (cl : List (Nat × Spec)) : Env := { ty := ty, call := callOf ([] ++ cl), news := newsOf [], mode := modeOf [], rows := false, keep := keepOf [(9, [4]), (6, [0, 1, 4, 5, 6]), (8, [0, 1, 4, 5, 6]), (7, [0, 1, 4, 5, 6, 27]), (5, [0, 1, 4, 5, 6, 17]), (4, [0, 1, 4, 5, 6]), (3, [0, 1, 4, 5]), (2, [0, 1, 4]), (1, [0, 1, 4, 9]), (0, [0, 1, 4])], loops := loopsOf [(5, ([0, 1, 4, 5, 6], []))], boxes := boxesOf [] }
theorem ty75 (cl : List (Nat × Spec)) : (E75 cl).ty = ty := rfl
theorem call75 (cl : List (Nat × Spec)) (f : Nat) (args : List V) (S : St) : (E75 cl).call f args S = callOf ([] ++ cl) f args S := rfl
theorem nw75 (cl : List (Nat × Spec)) (f : Nat) : (E75 cl).news f = newsOf [] f := rfl
theorem md75 (cl : List (Nat × Spec)) (f : Nat) : (E75 cl).mode f = modeOf [] f := rfl
theorem rw75 (cl : List (Nat × Spec)) : (E75 cl).rows = false := rfl
theorem kp75 (cl : List (Nat × Spec)) (f : Nat) : (E75 cl).keep f = keepOf [(9, [4]), (6, [0, 1, 4, 5, 6]), (8, [0, 1, 4, 5, 6]), (7, [0, 1, 4, 5, 6, 27]), (5, [0, 1, 4, 5, 6, 17]), (4, [0, 1, 4, 5, 6]), (3, [0, 1, 4, 5]), (2, [0, 1, 4]), (1, [0, 1, 4, 9]), (0, [0, 1, 4])] f := rfl
theorem lp75 (cl : List (Nat × Spec)) (f : Nat) : (E75 cl).loops f = loopsOf [(5, ([0, 1, 4, 5, 6], []))] f := rfl
theorem bx75 (cl : List (Nat × Spec)) (f : Nat) : (E75 cl).boxes f = boxesOf [] f := rfl
noncomputable def v75 (cl : List (Nat × Spec)) : Spec := fnSpec (E75 cl) 1 Tryz.f75
theorem vv75 (cl : List (Nat × Spec)) (args : List V) (S : St) : v75 cl args S = fnSpec (E75 cl) 1 Tryz.f75 args S := rfl
def u75 := And.intro @vv75 (And.intro @ty75 (And.intro @call75 (And.intro @nw75 (And.intro @md75 (And.intro @rw75 (And.intro @kp75 (And.intro @lp75 (@bx75))))))))
theorem ok75 (cl : List (Nat × Spec)) (hcl : ∀ p ∈ cl, SoundAt Tryz.prog p.1 p.2) : SoundAt Tryz.prog 75 (v75 cl) := soundAt_of mixed tyOk rfl (by intro p hp; simp only [List.cons_append, List.nil_append, List.mem_cons, List.mem_append, List.not_mem_nil, or_false] at hp; rcases hp with hp <;> first | exact hcl p hp) (f := 75) (fn := Tryz.f75) (by kernel_rfl) (by kernel_rfl) (by kernel_rfl) _

/-! 49: (*stevedore/volume.planner).gets (2 parameters) -/
noncomputable def E49 : Env := { ty := ty, call := callOf ([(68, v68 ([(69, v69), (72, v72), (74, v74)])), (71, v71), (72, v72), (70, v70 ([(69, v69), (72, v72), (74, v74)])), (74, v74), (75, v75 ([(69, v69), (72, v72), (74, v74)])), (69, v69)]), news := newsOf [(71, 1)], mode := modeOf [(68, 1), (75, 3)], rows := false, keep := keepOf [(9, [4]), (8, []), (7, [2, 3, 6, 7]), (6, [4]), (5, [2, 3, 6, 40]), (4, [2, 3, 6]), (3, [4]), (2, [2, 3, 29]), (1, [2, 3, 5]), (0, [2, 3])], loops := loopsOf [], boxes := boxesOf [] }
theorem ty49 : (E49).ty = ty := rfl
theorem call49 (f : Nat) (args : List V) (S : St) : (E49).call f args S = callOf ([(68, v68 ([(69, v69), (72, v72), (74, v74)])), (71, v71), (72, v72), (70, v70 ([(69, v69), (72, v72), (74, v74)])), (74, v74), (75, v75 ([(69, v69), (72, v72), (74, v74)])), (69, v69)]) f args S := rfl
theorem nw49 (f : Nat) : (E49).news f = newsOf [(71, 1)] f := rfl
theorem md49 (f : Nat) : (E49).mode f = modeOf [(68, 1), (75, 3)] f := rfl
theorem rw49 : (E49).rows = false := rfl
theorem kp49 (f : Nat) : (E49).keep f = keepOf [(9, [4]), (8, []), (7, [2, 3, 6, 7]), (6, [4]), (5, [2, 3, 6, 40]), (4, [2, 3, 6]), (3, [4]), (2, [2, 3, 29]), (1, [2, 3, 5]), (0, [2, 3])] f := rfl
theorem lp49 (f : Nat) : (E49).loops f = loopsOf [] f := rfl
theorem bx49 (f : Nat) : (E49).boxes f = boxesOf [] f := rfl
noncomputable def v49 : Spec := fnSpec (E49) 1 Tryz.f49
theorem vv49 (args : List V) (S : St) : v49 args S = fnSpec (E49) 1 Tryz.f49 args S := rfl
def u49 := And.intro @vv49 (And.intro @ty49 (And.intro @call49 (And.intro @nw49 (And.intro @md49 (And.intro @rw49 (And.intro @kp49 (And.intro @lp49 (@bx49))))))))
theorem ok49 : SoundAt Tryz.prog 49 (v49) := soundAt_of mixed tyOk rfl (by intro p hp; simp only [List.cons_append, List.nil_append, List.mem_cons, List.mem_append, List.not_mem_nil, or_false] at hp; rcases hp with rfl | rfl | rfl | rfl | rfl | rfl | rfl <;> first | exact ok68 _ (fun p hp => by simp only [List.cons_append, List.nil_append, List.mem_cons, List.mem_append, List.not_mem_nil, or_false] at hp; rcases hp with rfl | rfl | rfl <;> first | exact ok69 | exact ok72 | exact ok74) | exact ok71 | exact ok72 | exact ok70 _ (fun p hp => by simp only [List.cons_append, List.nil_append, List.mem_cons, List.mem_append, List.not_mem_nil, or_false] at hp; rcases hp with rfl | rfl | rfl <;> first | exact ok69 | exact ok72 | exact ok74) | exact ok74 | exact ok75 _ (fun p hp => by simp only [List.cons_append, List.nil_append, List.mem_cons, List.mem_append, List.not_mem_nil, or_false] at hp; rcases hp with rfl | rfl | rfl <;> first | exact ok69 | exact ok72 | exact ok74) | exact ok69) (f := 49) (fn := Tryz.f49) (by kernel_rfl) (by kernel_rfl) (by kernel_rfl) _

/-! 24: (*stevedore/volume.planner).claim (2 parameters) -/
noncomputable def E24 : Env := { ty := ty, call := callOf ([(41, v41 ([(42, v42)])), (48, v48), (49, v49), (42, v42)]), news := newsOf [(49, 1)], mode := modeOf [(41, 1)], rows := false, keep := keepOf [(6, [4]), (3, [4]), (5, [4]), (4, [0, 5, 16]), (2, [0, 5, 13]), (1, [0, 5]), (0, [0, 1])], loops := loopsOf [], boxes := boxesOf [] }
theorem ty24 : (E24).ty = ty := rfl
theorem call24 (f : Nat) (args : List V) (S : St) : (E24).call f args S = callOf ([(41, v41 ([(42, v42)])), (48, v48), (49, v49), (42, v42)]) f args S := rfl
theorem nw24 (f : Nat) : (E24).news f = newsOf [(49, 1)] f := rfl
theorem md24 (f : Nat) : (E24).mode f = modeOf [(41, 1)] f := rfl
theorem rw24 : (E24).rows = false := rfl
theorem kp24 (f : Nat) : (E24).keep f = keepOf [(6, [4]), (3, [4]), (5, [4]), (4, [0, 5, 16]), (2, [0, 5, 13]), (1, [0, 5]), (0, [0, 1])] f := rfl
theorem lp24 (f : Nat) : (E24).loops f = loopsOf [] f := rfl
theorem bx24 (f : Nat) : (E24).boxes f = boxesOf [] f := rfl
noncomputable def v24 : Spec := fnSpec (E24) 1 Tryz.f24
theorem vv24 (args : List V) (S : St) : v24 args S = fnSpec (E24) 1 Tryz.f24 args S := rfl
def u24 := And.intro @vv24 (And.intro @ty24 (And.intro @call24 (And.intro @nw24 (And.intro @md24 (And.intro @rw24 (And.intro @kp24 (And.intro @lp24 (@bx24))))))))
theorem ok24 : SoundAt Tryz.prog 24 (v24) := soundAt_of mixed tyOk rfl (by intro p hp; simp only [List.cons_append, List.nil_append, List.mem_cons, List.mem_append, List.not_mem_nil, or_false] at hp; rcases hp with rfl | rfl | rfl | rfl <;> first | exact ok41 _ (fun p hp => by simp only [List.cons_append, List.nil_append, List.mem_cons, List.mem_append, List.not_mem_nil, or_false] at hp; rcases hp with rfl <;> first | exact ok42) | exact ok48 | exact ok49 | exact ok42) (f := 24) (fn := Tryz.f24) (by kernel_rfl) (by kernel_rfl) (by kernel_rfl) _

/-! 25: slices.Clone[[]string,string] (1 parameters) -/
noncomputable def E25 : Env := { ty := ty, call := callOf ([]), news := newsOf [], mode := modeOf [], rows := true, keep := keepOf [(3, [2]), (2, [2]), (1, [0, 4]), (0, [0])], loops := loopsOf [], boxes := boxesOf [] }
theorem ty25 : (E25).ty = ty := rfl
theorem call25 (f : Nat) (args : List V) (S : St) : (E25).call f args S = callOf ([]) f args S := rfl
theorem nw25 (f : Nat) : (E25).news f = newsOf [] f := rfl
theorem md25 (f : Nat) : (E25).mode f = modeOf [] f := rfl
theorem rw25 : (E25).rows = true := rfl
theorem kp25 (f : Nat) : (E25).keep f = keepOf [(3, [2]), (2, [2]), (1, [0, 4]), (0, [0])] f := rfl
theorem lp25 (f : Nat) : (E25).loops f = loopsOf [] f := rfl
theorem bx25 (f : Nat) : (E25).boxes f = boxesOf [] f := rfl
noncomputable def wv25 : Spec := fnSpec (E25) 0 Tryz.f25
theorem vv25 (args : List V) (S : St) : wv25 args S = fnSpec (E25) 0 Tryz.f25 args S := rfl
def wu25 := And.intro @vv25 (And.intro @ty25 (And.intro @call25 (And.intro @nw25 (And.intro @md25 (And.intro @rw25 (And.intro @kp25 (And.intro @lp25 (@bx25))))))))
theorem wok25 : SoundAt Tryz.prog 25 (wv25) := soundAt_of mixed tyOk rfl (by intro p hp; simp at hp) (f := 25) (fn := Tryz.f25) (by kernel_rfl) (by kernel_rfl) (by kernel_rfl) _
theorem cl25_1 (x : D) (r : List D) (hall : (x :: r).all (fun x => x.cells.length == 1) = true) (hlen : (x :: r).length ≤ 2147483648) : wv25 [.d (.sl (x :: r))] [] = some (.sl 0 0 (x :: r).length, [.row 9 1 (x :: r)]) := by
  have hlen' : r.length ≤ 2147483647 := by simp at hlen; omega
  rw [List.all_cons] at hall
  simp only [wu25, Tryz.f25, sm, tys, Nat.reduceAdd, Nat.reduceSub, Nat.reduceEqDiff, Nat.reduceLeDiff, Nat.reduceLT, Nat.reduceMul, Nat.reduceBEq, ↓reduceIte, reduceCtorEq, Int.reduceLT, Int.reduceLE, Int.reduceGT, Int.reduceGE, Int.reduceBEq, Int.reduceBNe, Int.reduceEq, Int.reduceNe, Int.reduceAdd, Int.reduceSub, Int.reduceMul, Int.reduceNeg, Int.reduceToNat, hall, hlen']
theorem cl25_2 : wv25 [.nil] [] = some (.nil, []) := by
  simp only [wu25, Tryz.f25, sm, tys, Nat.reduceAdd, Nat.reduceSub, Nat.reduceEqDiff, Nat.reduceLeDiff, Nat.reduceLT, Nat.reduceMul, Nat.reduceBEq, ↓reduceIte, reduceCtorEq, Int.reduceLT, Int.reduceLE, Int.reduceGT, Int.reduceGE, Int.reduceBEq, Int.reduceBNe, Int.reduceEq, Int.reduceNe, Int.reduceAdd, Int.reduceSub, Int.reduceMul, Int.reduceNeg, Int.reduceToNat]
theorem cl25_3 : wv25 [.emp] [] = some (.sl 0 0 0, [.row 9 1 []]) := by
  simp only [wu25, Tryz.f25, sm, tys, Nat.reduceAdd, Nat.reduceSub, Nat.reduceEqDiff, Nat.reduceLeDiff, Nat.reduceLT, Nat.reduceMul, Nat.reduceBEq, ↓reduceIte, reduceCtorEq, Int.reduceLT, Int.reduceLE, Int.reduceGT, Int.reduceGE, Int.reduceBEq, Int.reduceBNe, Int.reduceEq, Int.reduceNe, Int.reduceAdd, Int.reduceSub, Int.reduceMul, Int.reduceNeg, Int.reduceToNat]
theorem cl25_4 (xs : List D) (lo n : Nat) (hn : 0 < n) (hall : ((xs.drop lo).take n).all (fun x => x.cells.length == 1) = true) (hlen : ((xs.drop lo).take n).length = n) (hmax : n ≤ 2147483648) : wv25 [.sl 0 lo n] [.row 9 1 xs] = some (.sl 1 0 n, [.row 9 1 xs, .row 9 1 ((xs.drop lo).take n)]) := by
  generalize hys : ((xs.drop lo).take n) = ys at *
  simp only [wu25, Tryz.f25, sm, tys, Nat.reduceAdd, Nat.reduceSub, Nat.reduceEqDiff, Nat.reduceLeDiff, Nat.reduceLT, Nat.reduceMul, Nat.reduceBEq, ↓reduceIte, reduceCtorEq, Int.reduceLT, Int.reduceLE, Int.reduceGT, Int.reduceGE, Int.reduceBEq, Int.reduceBNe, Int.reduceEq, Int.reduceNe, Int.reduceAdd, Int.reduceSub, Int.reduceMul, Int.reduceNeg, Int.reduceToNat, hn, hall, hlen, hmax, hys]
theorem cl25_5 (xs : List D) : wv25 [.nil] [.row 9 1 xs] = some (.nil, [.row 9 1 xs]) := by
  simp only [wu25, Tryz.f25, sm, tys, Nat.reduceAdd, Nat.reduceSub, Nat.reduceEqDiff, Nat.reduceLeDiff, Nat.reduceLT, Nat.reduceMul, Nat.reduceBEq, ↓reduceIte, reduceCtorEq, Int.reduceLT, Int.reduceLE, Int.reduceGT, Int.reduceGE, Int.reduceBEq, Int.reduceBNe, Int.reduceEq, Int.reduceNe, Int.reduceAdd, Int.reduceSub, Int.reduceMul, Int.reduceNeg, Int.reduceToNat]
theorem cl25_6 (xs : List D) : wv25 [.emp] [.row 9 1 xs] = some (.sl 1 0 0, [.row 9 1 xs, .row 9 1 []]) := by
  simp only [wu25, Tryz.f25, sm, tys, Nat.reduceAdd, Nat.reduceSub, Nat.reduceEqDiff, Nat.reduceLeDiff, Nat.reduceLT, Nat.reduceMul, Nat.reduceBEq, ↓reduceIte, reduceCtorEq, Int.reduceLT, Int.reduceLE, Int.reduceGT, Int.reduceGE, Int.reduceBEq, Int.reduceBNe, Int.reduceEq, Int.reduceNe, Int.reduceAdd, Int.reduceSub, Int.reduceMul, Int.reduceNeg, Int.reduceToNat]
noncomputable def v25 : Spec := cloneSpec true 9 1
theorem vc25 (xs : List D) : v25 [.d (.sl xs)] [] = if xs.all (fun x => x.cells.length == 1) then (if xs.length ≤ 2147483648 then some (.sl 0 0 xs.length, [.row 9 1 xs]) else none) else none := rfl
def u25 := @vc25
theorem vcl25 (xs : List D) (h1 : xs.all (fun x => x.cells.length == 1) = true) (h3 : xs.length ≤ 2147483648) : v25 [.sl 0 0 xs.length] [.row 9 1 xs] = some (.sl 1 0 xs.length, [.row 9 1 xs, .row 9 1 xs]) := clone_all true 9 1 xs h1 h3
theorem ok25 : SoundAt Tryz.prog 25 v25 := clone_sound (rows := true) (e := 9) (sz := 1) wok25 cl25_1 cl25_2 cl25_3 cl25_4 cl25_5 cl25_6

/-! 86: math/bits.Len64 (1 parameters) -/
noncomputable def E86 : Env := { ty := ty, call := callOf ([]), news := newsOf [], mode := modeOf [], rows := false, keep := keepOf [(10, [2]), (9, [0, 2]), (8, [0, 2]), (7, [0, 2, 14]), (6, [0, 2]), (5, [0, 2]), (4, [0, 2, 8]), (3, [0, 2]), (2, [0]), (1, [0, 2, 4]), (0, [0, 2])], loops := loopsOf [], boxes := boxesOf [] }
theorem ty86 : (E86).ty = ty := rfl
theorem call86 (f : Nat) (args : List V) (S : St) : (E86).call f args S = callOf ([]) f args S := rfl
theorem nw86 (f : Nat) : (E86).news f = newsOf [] f := rfl
theorem md86 (f : Nat) : (E86).mode f = modeOf [] f := rfl
theorem rw86 : (E86).rows = false := rfl
theorem kp86 (f : Nat) : (E86).keep f = keepOf [(10, [2]), (9, [0, 2]), (8, [0, 2]), (7, [0, 2, 14]), (6, [0, 2]), (5, [0, 2]), (4, [0, 2, 8]), (3, [0, 2]), (2, [0]), (1, [0, 2, 4]), (0, [0, 2])] f := rfl
theorem lp86 (f : Nat) : (E86).loops f = loopsOf [] f := rfl
theorem bx86 (f : Nat) : (E86).boxes f = boxesOf [] f := rfl
noncomputable def v86 : Spec := fnSpec (E86) 1 Tryz.f86
theorem vv86 (args : List V) (S : St) : v86 args S = fnSpec (E86) 1 Tryz.f86 args S := rfl
def u86 := And.intro @vv86 (And.intro @ty86 (And.intro @call86 (And.intro @nw86 (And.intro @md86 (And.intro @rw86 (And.intro @kp86 (And.intro @lp86 (@bx86))))))))
theorem ok86 : SoundAt Tryz.prog 86 (v86) := soundAt_of mixed tyOk rfl (by intro p hp; simp at hp) (f := 86) (fn := Tryz.f86) (by kernel_rfl) (by kernel_rfl) (by kernel_rfl) _

/-! 51: math/bits.Len (1 parameters) -/
noncomputable def E51 : Env := { ty := ty, call := callOf ([(86, v86)]), news := newsOf [], mode := modeOf [], rows := false, keep := keepOf [(2, [2]), (1, [2]), (0, [0])], loops := loopsOf [], boxes := boxesOf [] }
theorem ty51 : (E51).ty = ty := rfl
theorem call51 (f : Nat) (args : List V) (S : St) : (E51).call f args S = callOf ([(86, v86)]) f args S := rfl
theorem nw51 (f : Nat) : (E51).news f = newsOf [] f := rfl
theorem md51 (f : Nat) : (E51).mode f = modeOf [] f := rfl
theorem rw51 : (E51).rows = false := rfl
theorem kp51 (f : Nat) : (E51).keep f = keepOf [(2, [2]), (1, [2]), (0, [0])] f := rfl
theorem lp51 (f : Nat) : (E51).loops f = loopsOf [] f := rfl
theorem bx51 (f : Nat) : (E51).boxes f = boxesOf [] f := rfl
noncomputable def v51 : Spec := fnSpec (E51) 1 Tryz.f51
theorem vv51 (args : List V) (S : St) : v51 args S = fnSpec (E51) 1 Tryz.f51 args S := rfl
def u51 := And.intro @vv51 (And.intro @ty51 (And.intro @call51 (And.intro @nw51 (And.intro @md51 (And.intro @rw51 (And.intro @kp51 (And.intro @lp51 (@bx51))))))))
theorem ok51 : SoundAt Tryz.prog 51 (v51) := soundAt_of mixed tyOk rfl (by intro p hp; simp only [List.cons_append, List.nil_append, List.mem_cons, List.mem_append, List.not_mem_nil, or_false] at hp; rcases hp with rfl <;> first | exact ok86) (f := 51) (fn := Tryz.f51) (by kernel_rfl) (by kernel_rfl) (by kernel_rfl) _

/-! 82: cmp.Less[string] (2 parameters) -/
noncomputable def E82 : Env := { ty := ty, call := callOf ([(108, v108)]), news := newsOf [], mode := modeOf [], rows := false, keep := keepOf [(1, [4]), (0, [0, 1])], loops := loopsOf [], boxes := boxesOf [] }
theorem ty82 : (E82).ty = ty := rfl
theorem call82 (f : Nat) (args : List V) (S : St) : (E82).call f args S = callOf ([(108, v108)]) f args S := rfl
theorem nw82 (f : Nat) : (E82).news f = newsOf [] f := rfl
theorem md82 (f : Nat) : (E82).mode f = modeOf [] f := rfl
theorem rw82 : (E82).rows = false := rfl
theorem kp82 (f : Nat) : (E82).keep f = keepOf [(1, [4]), (0, [0, 1])] f := rfl
theorem lp82 (f : Nat) : (E82).loops f = loopsOf [] f := rfl
theorem bx82 (f : Nat) : (E82).boxes f = boxesOf [] f := rfl
noncomputable def v82 : Spec := fnSpec (E82) 1 Tryz.f82
theorem vv82 (args : List V) (S : St) : v82 args S = fnSpec (E82) 1 Tryz.f82 args S := rfl
def u82 := And.intro @vv82 (And.intro @ty82 (And.intro @call82 (And.intro @nw82 (And.intro @md82 (And.intro @rw82 (And.intro @kp82 (And.intro @lp82 (@bx82))))))))
theorem ok82 : SoundAt Tryz.prog 82 (v82) := soundAt_of mixed tyOk rfl (by intro p hp; simp only [List.cons_append, List.nil_append, List.mem_cons, List.mem_append, List.not_mem_nil, or_false] at hp; rcases hp with rfl <;> first | exact ok108) (f := 82) (fn := Tryz.f82) (by kernel_rfl) (by kernel_rfl) (by kernel_rfl) _

/-! 76: slices.insertionSortOrdered[string] (3 parameters) -/
noncomputable def E76 : Env := { ty := ty, call := callOf ([(82, v82)]), news := newsOf [], mode := modeOf [], rows := false, keep := keepOf [(2, [0, 1, 2, 6]), (5, [0, 1, 2, 6, 7]), (6, [0, 1, 2, 6, 7]), (4, [0, 1, 2, 6, 7, 30]), (3, [0, 1, 2, 6, 7]), (1, [0, 1, 2, 6, 12]), (0, [0, 1, 2, 6])], loops := loopsOf [(4, ([0, 1, 2, 6, 7], [])), (1, ([0, 1, 2, 6], []))], boxes := boxesOf [] }
theorem ty76 : (E76).ty = ty := rfl
theorem call76 (f : Nat) (args : List V) (S : St) : (E76).call f args S = callOf ([(82, v82)]) f args S := rfl
theorem nw76 (f : Nat) : (E76).news f = newsOf [] f := rfl
theorem md76 (f : Nat) : (E76).mode f = modeOf [] f := rfl
theorem rw76 : (E76).rows = false := rfl
theorem kp76 (f : Nat) : (E76).keep f = keepOf [(2, [0, 1, 2, 6]), (5, [0, 1, 2, 6, 7]), (6, [0, 1, 2, 6, 7]), (4, [0, 1, 2, 6, 7, 30]), (3, [0, 1, 2, 6, 7]), (1, [0, 1, 2, 6, 12]), (0, [0, 1, 2, 6])] f := rfl
theorem lp76 (f : Nat) : (E76).loops f = loopsOf [(4, ([0, 1, 2, 6, 7], [])), (1, ([0, 1, 2, 6], []))] f := rfl
theorem bx76 (f : Nat) : (E76).boxes f = boxesOf [] f := rfl
noncomputable def v76 : Spec := fnSpec (E76) 1 Tryz.f76
theorem vv76 (args : List V) (S : St) : v76 args S = fnSpec (E76) 1 Tryz.f76 args S := rfl
def u76 := And.intro @vv76 (And.intro @ty76 (And.intro @call76 (And.intro @nw76 (And.intro @md76 (And.intro @rw76 (And.intro @kp76 (And.intro @lp76 (@bx76))))))))
theorem ok76 : SoundAt Tryz.prog 76 (v76) := soundAt_of mixed tyOk rfl (by intro p hp; simp only [List.cons_append, List.nil_append, List.mem_cons, List.mem_append, List.not_mem_nil, or_false] at hp; rcases hp with rfl <;> first | exact ok82) (f := 76) (fn := Tryz.f76) (by kernel_rfl) (by kernel_rfl) (by kernel_rfl) _

/-! 50: slices.pdqsortOrdered[string] (4 parameters) -/
noncomputable def E50 : Env := { ty := ty, call := callOf ([(76, v76), (82, v82)]), news := newsOf [], mode := modeOf [], rows := false, keep := keepOf [(27, [0, 1, 2, 3, 8, 9]), (26, [0, 2, 3, 8, 9, 14]), (25, [0, 1, 2, 3, 8, 9, 14]), (30, [0, 1, 2, 3, 8, 9]), (29, [0, 1, 3, 8, 9, 14]), (28, [0, 1, 2, 3, 8, 9, 14]), (24, [0, 1, 2, 3, 9, 14, 16, 17, 18, 113]), (23, [0, 1, 2, 3, 9, 14, 16, 17, 18]), (22, [0, 1, 2, 3, 9, 10, 14, 16, 17]), (21, [0, 1, 2, 3, 9, 10, 14]), (20, [0, 1, 2, 3, 10, 14, 15]), (19, [0, 1, 2, 3, 8, 9]), (18, [0, 2, 3, 8, 9, 13]), (17, [0, 1, 2, 3, 8, 9, 10, 11, 87]), (16, [0, 1, 2, 3, 8, 9, 10, 11, 72]), (15, [0, 1, 2, 3, 8, 9, 10, 11, 68]), (14, [0, 1, 2, 3, 8, 9, 10, 11, 12]), (13, [0, 1, 2, 3, 8, 9, 10, 11]), (12, [0, 1, 2, 3, 8, 9, 10, 11]), (11, [0, 1, 2, 3, 8, 9, 10, 11, 12, 50]), (10, [0, 1, 2, 3, 8, 9, 10, 11, 12]), (9, [0, 1, 2, 3, 8, 9, 10]), (8, [0, 1, 2, 3, 8, 9, 10]), (7, [0, 1, 2, 3, 8, 9, 10, 35]), (6, []), (5, [0, 1, 2, 3, 8, 9, 10, 29]), (4, []), (3, [0, 1, 2, 3, 8, 9, 10, 23]), (2, [0, 1, 2, 3, 8, 9, 10]), (1, [0, 1, 2, 3, 8, 9]), (0, [0, 1, 2, 3, 8])], loops := loopsOf [(2, ([0, 1, 2, 3, 8, 9], []))], boxes := boxesOf [] }
theorem ty50 : (E50).ty = ty := rfl
theorem call50 (f : Nat) (args : List V) (S : St) : (E50).call f args S = callOf ([(76, v76), (82, v82)]) f args S := rfl
theorem nw50 (f : Nat) : (E50).news f = newsOf [] f := rfl
theorem md50 (f : Nat) : (E50).mode f = modeOf [] f := rfl
theorem rw50 : (E50).rows = false := rfl
theorem kp50 (f : Nat) : (E50).keep f = keepOf [(27, [0, 1, 2, 3, 8, 9]), (26, [0, 2, 3, 8, 9, 14]), (25, [0, 1, 2, 3, 8, 9, 14]), (30, [0, 1, 2, 3, 8, 9]), (29, [0, 1, 3, 8, 9, 14]), (28, [0, 1, 2, 3, 8, 9, 14]), (24, [0, 1, 2, 3, 9, 14, 16, 17, 18, 113]), (23, [0, 1, 2, 3, 9, 14, 16, 17, 18]), (22, [0, 1, 2, 3, 9, 10, 14, 16, 17]), (21, [0, 1, 2, 3, 9, 10, 14]), (20, [0, 1, 2, 3, 10, 14, 15]), (19, [0, 1, 2, 3, 8, 9]), (18, [0, 2, 3, 8, 9, 13]), (17, [0, 1, 2, 3, 8, 9, 10, 11, 87]), (16, [0, 1, 2, 3, 8, 9, 10, 11, 72]), (15, [0, 1, 2, 3, 8, 9, 10, 11, 68]), (14, [0, 1, 2, 3, 8, 9, 10, 11, 12]), (13, [0, 1, 2, 3, 8, 9, 10, 11]), (12, [0, 1, 2, 3, 8, 9, 10, 11]), (11, [0, 1, 2, 3, 8, 9, 10, 11, 12, 50]), (10, [0, 1, 2, 3, 8, 9, 10, 11, 12]), (9, [0, 1, 2, 3, 8, 9, 10]), (8, [0, 1, 2, 3, 8, 9, 10]), (7, [0, 1, 2, 3, 8, 9, 10, 35]), (6, []), (5, [0, 1, 2, 3, 8, 9, 10, 29]), (4, []), (3, [0, 1, 2, 3, 8, 9, 10, 23]), (2, [0, 1, 2, 3, 8, 9, 10]), (1, [0, 1, 2, 3, 8, 9]), (0, [0, 1, 2, 3, 8])] f := rfl
theorem lp50 (f : Nat) : (E50).loops f = loopsOf [(2, ([0, 1, 2, 3, 8, 9], []))] f := rfl
theorem bx50 (f : Nat) : (E50).boxes f = boxesOf [] f := rfl
noncomputable def v50 : Spec := fnSpec (E50) 1 Tryz.f50
theorem vv50 (args : List V) (S : St) : v50 args S = fnSpec (E50) 1 Tryz.f50 args S := rfl
def u50 := And.intro @vv50 (And.intro @ty50 (And.intro @call50 (And.intro @nw50 (And.intro @md50 (And.intro @rw50 (And.intro @kp50 (And.intro @lp50 (@bx50))))))))
theorem ok50 : SoundAt Tryz.prog 50 (v50) := soundAt_of mixed tyOk rfl (by intro p hp; simp only [List.cons_append, List.nil_append, List.mem_cons, List.mem_append, List.not_mem_nil, or_false] at hp; rcases hp with rfl | rfl <;> first | exact ok76 | exact ok82) (f := 50) (fn := Tryz.f50) (by kernel_rfl) (by kernel_rfl) (by kernel_rfl) _

/-! 26: slices.Sort[[]string,string] (1 parameters) -/
noncomputable def E26 : Env := { ty := ty, call := callOf ([(51, v51), (50, v50)]), news := newsOf [], mode := modeOf [], rows := false, keep := keepOf [(1, []), (0, [0, 2])], loops := loopsOf [], boxes := boxesOf [] }
theorem ty26 : (E26).ty = ty := rfl
theorem call26 (f : Nat) (args : List V) (S : St) : (E26).call f args S = callOf ([(51, v51), (50, v50)]) f args S := rfl
theorem nw26 (f : Nat) : (E26).news f = newsOf [] f := rfl
theorem md26 (f : Nat) : (E26).mode f = modeOf [] f := rfl
theorem rw26 : (E26).rows = false := rfl
theorem kp26 (f : Nat) : (E26).keep f = keepOf [(1, []), (0, [0, 2])] f := rfl
theorem lp26 (f : Nat) : (E26).loops f = loopsOf [] f := rfl
theorem bx26 (f : Nat) : (E26).boxes f = boxesOf [] f := rfl
noncomputable def v26 : Spec := fnSpec (E26) 1 Tryz.f26
theorem vv26 (args : List V) (S : St) : v26 args S = fnSpec (E26) 1 Tryz.f26 args S := rfl
def u26 := And.intro @vv26 (And.intro @ty26 (And.intro @call26 (And.intro @nw26 (And.intro @md26 (And.intro @rw26 (And.intro @kp26 (And.intro @lp26 (@bx26))))))))
theorem ok26 : SoundAt Tryz.prog 26 (v26) := soundAt_of mixed tyOk rfl (by intro p hp; simp only [List.cons_append, List.nil_append, List.mem_cons, List.mem_append, List.not_mem_nil, or_false] at hp; rcases hp with rfl | rfl <;> first | exact ok51 | exact ok50) (f := 26) (fn := Tryz.f26) (by kernel_rfl) (by kernel_rfl) (by kernel_rfl) _

/-! 27: slices.Compact[[]string,string] (1 parameters) -/
noncomputable def E27 : Env := { ty := ty, call := callOf ([]), news := newsOf [], mode := modeOf [], rows := false, keep := keepOf [(16, [2]), (5, [0, 3]), (15, [2]), (14, [0, 3]), (10, [0, 3, 4, 5]), (13, [0, 3, 4, 5]), (12, [0, 3, 4, 5]), (11, [0, 3, 4, 5, 44]), (9, [0, 3, 4, 5, 32]), (8, [0, 3, 4, 5]), (7, [0, 3, 4]), (6, [0, 3, 25]), (4, [0, 3, 13]), (3, [0, 3]), (2, [2]), (1, [0, 8]), (0, [0])], loops := loopsOf [(9, ([0, 3, 4, 5], [])), (4, ([0, 3], []))], boxes := boxesOf [] }
theorem ty27 : (E27).ty = ty := rfl
theorem call27 (f : Nat) (args : List V) (S : St) : (E27).call f args S = callOf ([]) f args S := rfl
theorem nw27 (f : Nat) : (E27).news f = newsOf [] f := rfl
theorem md27 (f : Nat) : (E27).mode f = modeOf [] f := rfl
theorem rw27 : (E27).rows = false := rfl
theorem kp27 (f : Nat) : (E27).keep f = keepOf [(16, [2]), (5, [0, 3]), (15, [2]), (14, [0, 3]), (10, [0, 3, 4, 5]), (13, [0, 3, 4, 5]), (12, [0, 3, 4, 5]), (11, [0, 3, 4, 5, 44]), (9, [0, 3, 4, 5, 32]), (8, [0, 3, 4, 5]), (7, [0, 3, 4]), (6, [0, 3, 25]), (4, [0, 3, 13]), (3, [0, 3]), (2, [2]), (1, [0, 8]), (0, [0])] f := rfl
theorem lp27 (f : Nat) : (E27).loops f = loopsOf [(9, ([0, 3, 4, 5], [])), (4, ([0, 3], []))] f := rfl
theorem bx27 (f : Nat) : (E27).boxes f = boxesOf [] f := rfl
noncomputable def v27 : Spec := fnSpec (E27) 1 Tryz.f27
theorem vv27 (args : List V) (S : St) : v27 args S = fnSpec (E27) 1 Tryz.f27 args S := rfl
def u27 := And.intro @vv27 (And.intro @ty27 (And.intro @call27 (And.intro @nw27 (And.intro @md27 (And.intro @rw27 (And.intro @kp27 (And.intro @lp27 (@bx27))))))))
theorem ok27 : SoundAt Tryz.prog 27 (v27) := soundAt_of mixed tyOk rfl (by intro p hp; simp at hp) (f := 27) (fn := Tryz.f27) (by kernel_rfl) (by kernel_rfl) (by kernel_rfl) _

/-! 28: stevedore/quant.Clamp (1 parameters) -/
noncomputable def E28 : Env := { ty := ty, call := callOf ([]), news := newsOf [], mode := modeOf [], rows := false, keep := keepOf [(1, [2]), (0, [0])], loops := loopsOf [], boxes := boxesOf [] }
theorem ty28 : (E28).ty = ty := rfl
theorem call28 (f : Nat) (args : List V) (S : St) : (E28).call f args S = callOf ([]) f args S := rfl
theorem nw28 (f : Nat) : (E28).news f = newsOf [] f := rfl
theorem md28 (f : Nat) : (E28).mode f = modeOf [] f := rfl
theorem rw28 : (E28).rows = false := rfl
theorem kp28 (f : Nat) : (E28).keep f = keepOf [(1, [2]), (0, [0])] f := rfl
theorem lp28 (f : Nat) : (E28).loops f = loopsOf [] f := rfl
theorem bx28 (f : Nat) : (E28).boxes f = boxesOf [] f := rfl
noncomputable def v28 : Spec := fnSpec (E28) 1 Tryz.f28
theorem vv28 (args : List V) (S : St) : v28 args S = fnSpec (E28) 1 Tryz.f28 args S := rfl
def u28 := And.intro @vv28 (And.intro @ty28 (And.intro @call28 (And.intro @nw28 (And.intro @md28 (And.intro @rw28 (And.intro @kp28 (And.intro @lp28 (@bx28))))))))
theorem ok28 : SoundAt Tryz.prog 28 (v28) := soundAt_of mixed tyOk rfl (by intro p hp; simp at hp) (f := 28) (fn := Tryz.f28) (by kernel_rfl) (by kernel_rfl) (by kernel_rfl) _

/-! 10: stevedore/volume.Plan (3 parameters) -/
noncomputable def E10 : Env := { ty := ty, call := callOf ([(24, v24), (25, v25), (26, v26), (27, v27), (28, v28)]), news := newsOf [(24, 1), (25, 1)], mode := modeOf [], rows := false, keep := keepOf [(14, [6, 7]), (13, [6, 7]), (12, [8, 53]), (11, [4, 8, 13]), (10, [4, 8, 12]), (9, [4, 8, 12]), (8, [3, 4, 8, 19, 20, 21]), (7, [6, 7]), (6, [3, 4, 8, 11, 19, 20, 21, 29]), (5, [3, 4, 8, 11, 19, 20, 21]), (4, [3, 4, 8, 10, 19, 20, 21]), (3, [3, 4, 8, 19, 20, 21, 22]), (2, [3, 4, 8, 19, 20, 21]), (1, [3, 4, 8]), (0, [3, 4, 5])], loops := loopsOf [(3, ([3, 4, 8, 19, 20, 21], []))], boxes := boxesOf [] }
theorem ty10 : (E10).ty = ty := rfl
theorem call10 (f : Nat) (args : List V) (S : St) : (E10).call f args S = callOf ([(24, v24), (25, v25), (26, v26), (27, v27), (28, v28)]) f args S := rfl
theorem nw10 (f : Nat) : (E10).news f = newsOf [(24, 1), (25, 1)] f := rfl
theorem md10 (f : Nat) : (E10).mode f = modeOf [] f := rfl
theorem rw10 : (E10).rows = false := rfl
theorem kp10 (f : Nat) : (E10).keep f = keepOf [(14, [6, 7]), (13, [6, 7]), (12, [8, 53]), (11, [4, 8, 13]), (10, [4, 8, 12]), (9, [4, 8, 12]), (8, [3, 4, 8, 19, 20, 21]), (7, [6, 7]), (6, [3, 4, 8, 11, 19, 20, 21, 29]), (5, [3, 4, 8, 11, 19, 20, 21]), (4, [3, 4, 8, 10, 19, 20, 21]), (3, [3, 4, 8, 19, 20, 21, 22]), (2, [3, 4, 8, 19, 20, 21]), (1, [3, 4, 8]), (0, [3, 4, 5])] f := rfl
theorem lp10 (f : Nat) : (E10).loops f = loopsOf [(3, ([3, 4, 8, 19, 20, 21], []))] f := rfl
theorem bx10 (f : Nat) : (E10).boxes f = boxesOf [] f := rfl
noncomputable def v10 : Spec := fnSpec (E10) 1 Tryz.f10
theorem vv10 (args : List V) (S : St) : v10 args S = fnSpec (E10) 1 Tryz.f10 args S := rfl
def u10 := And.intro @vv10 (And.intro @ty10 (And.intro @call10 (And.intro @nw10 (And.intro @md10 (And.intro @rw10 (And.intro @kp10 (And.intro @lp10 (@bx10))))))))
theorem ok10 : SoundAt Tryz.prog 10 (v10) := soundAt_of mixed tyOk rfl (by intro p hp; simp only [List.cons_append, List.nil_append, List.mem_cons, List.mem_append, List.not_mem_nil, or_false] at hp; rcases hp with rfl | rfl | rfl | rfl | rfl <;> first | exact ok24 | exact ok25 | exact ok26 | exact ok27 | exact ok28) (f := 10) (fn := Tryz.f10) (by kernel_rfl) (by kernel_rfl) (by kernel_rfl) _

/-! 18: stevedore/stevedorebase.SamePicks (2 parameters) -/
noncomputable def E18 : Env := { ty := ty, call := callOf ([]), news := newsOf [], mode := modeOf [], rows := false, keep := keepOf [(8, [4]), (5, [0, 1, 5]), (7, [4]), (6, [0, 1, 5, 25]), (4, [0, 1, 5, 14]), (3, [0, 1, 5]), (2, [4]), (1, [0, 1, 10]), (0, [0, 1])], loops := loopsOf [(4, ([0, 1, 5], []))], boxes := boxesOf [] }
theorem ty18 : (E18).ty = ty := rfl
theorem call18 (f : Nat) (args : List V) (S : St) : (E18).call f args S = callOf ([]) f args S := rfl
theorem nw18 (f : Nat) : (E18).news f = newsOf [] f := rfl
theorem md18 (f : Nat) : (E18).mode f = modeOf [] f := rfl
theorem rw18 : (E18).rows = false := rfl
theorem kp18 (f : Nat) : (E18).keep f = keepOf [(8, [4]), (5, [0, 1, 5]), (7, [4]), (6, [0, 1, 5, 25]), (4, [0, 1, 5, 14]), (3, [0, 1, 5]), (2, [4]), (1, [0, 1, 10]), (0, [0, 1])] f := rfl
theorem lp18 (f : Nat) : (E18).loops f = loopsOf [(4, ([0, 1, 5], []))] f := rfl
theorem bx18 (f : Nat) : (E18).boxes f = boxesOf [] f := rfl
noncomputable def v18 : Spec := fnSpec (E18) 1 Tryz.f18
theorem vv18 (args : List V) (S : St) : v18 args S = fnSpec (E18) 1 Tryz.f18 args S := rfl
def u18 := And.intro @vv18 (And.intro @ty18 (And.intro @call18 (And.intro @nw18 (And.intro @md18 (And.intro @rw18 (And.intro @kp18 (And.intro @lp18 (@bx18))))))))
theorem ok18 : SoundAt Tryz.prog 18 (v18) := soundAt_of mixed tyOk rfl (by intro p hp; simp at hp) (f := 18) (fn := Tryz.f18) (by kernel_rfl) (by kernel_rfl) (by kernel_rfl) _

/-! 7: stevedore/stevedorelaw10.works (0 parameters) -/
noncomputable def E7 : Env := { ty := ty, call := callOf ([(10, v10), (18, v18)]), news := newsOf [], mode := modeOf [], rows := false, keep := keepOf [(4, [0]), (3, [2, 3, 5]), (2, [1, 2, 3]), (1, [1]), (0, [])], loops := loopsOf [], boxes := boxesOf [] }
theorem ty7 : (E7).ty = ty := rfl
theorem call7 (f : Nat) (args : List V) (S : St) : (E7).call f args S = callOf ([(10, v10), (18, v18)]) f args S := rfl
theorem nw7 (f : Nat) : (E7).news f = newsOf [] f := rfl
theorem md7 (f : Nat) : (E7).mode f = modeOf [] f := rfl
theorem rw7 : (E7).rows = false := rfl
theorem kp7 (f : Nat) : (E7).keep f = keepOf [(4, [0]), (3, [2, 3, 5]), (2, [1, 2, 3]), (1, [1]), (0, [])] f := rfl
theorem lp7 (f : Nat) : (E7).loops f = loopsOf [] f := rfl
theorem bx7 (f : Nat) : (E7).boxes f = boxesOf [] f := rfl
noncomputable def v7 : Spec := fnSpec (E7) 1 Tryz.f7
theorem vv7 (args : List V) (S : St) : v7 args S = fnSpec (E7) 1 Tryz.f7 args S := rfl
def u7 := And.intro @vv7 (And.intro @ty7 (And.intro @call7 (And.intro @nw7 (And.intro @md7 (And.intro @rw7 (And.intro @kp7 (And.intro @lp7 (@bx7))))))))
theorem ok7 : SoundAt Tryz.prog 7 (v7) := soundAt_of mixed tyOk rfl (by intro p hp; simp only [List.cons_append, List.nil_append, List.mem_cons, List.mem_append, List.not_mem_nil, or_false] at hp; rcases hp with rfl | rfl <;> first | exact ok10 | exact ok18) (f := 7) (fn := Tryz.f7) (by kernel_rfl) (by kernel_rfl) (by kernel_rfl) _

/-! 19: stevedore/stevedorebase.Has (2 parameters) -/
noncomputable def E19 : Env := { ty := ty, call := callOf ([]), news := newsOf [], mode := modeOf [], rows := false, keep := keepOf [(6, [4]), (3, [0, 1, 5]), (5, [4]), (4, [0, 1, 5, 17]), (2, [0, 1, 5, 9]), (1, [0, 1, 5]), (0, [0, 1])], loops := loopsOf [(2, ([0, 1, 5], []))], boxes := boxesOf [] }
theorem ty19 : (E19).ty = ty := rfl
theorem call19 (f : Nat) (args : List V) (S : St) : (E19).call f args S = callOf ([]) f args S := rfl
theorem nw19 (f : Nat) : (E19).news f = newsOf [] f := rfl
theorem md19 (f : Nat) : (E19).mode f = modeOf [] f := rfl
theorem rw19 : (E19).rows = false := rfl
theorem kp19 (f : Nat) : (E19).keep f = keepOf [(6, [4]), (3, [0, 1, 5]), (5, [4]), (4, [0, 1, 5, 17]), (2, [0, 1, 5, 9]), (1, [0, 1, 5]), (0, [0, 1])] f := rfl
theorem lp19 (f : Nat) : (E19).loops f = loopsOf [(2, ([0, 1, 5], []))] f := rfl
theorem bx19 (f : Nat) : (E19).boxes f = boxesOf [] f := rfl
noncomputable def v19 : Spec := fnSpec (E19) 1 Tryz.f19
theorem vv19 (args : List V) (S : St) : v19 args S = fnSpec (E19) 1 Tryz.f19 args S := rfl
def u19 := And.intro @vv19 (And.intro @ty19 (And.intro @call19 (And.intro @nw19 (And.intro @md19 (And.intro @rw19 (And.intro @kp19 (And.intro @lp19 (@bx19))))))))
theorem ok19 : SoundAt Tryz.prog 19 (v19) := soundAt_of mixed tyOk rfl (by intro p hp; simp at hp) (f := 19) (fn := Tryz.f19) (by kernel_rfl) (by kernel_rfl) (by kernel_rfl) _

/-! 8: stevedore/stevedorelaw10.once (1 parameters) -/
noncomputable def E8 : Env := { ty := ty, call := callOf ([(19, v19)]), news := newsOf [], mode := modeOf [(19, 1)], rows := false, keep := keepOf [(14, [2]), (10, [1, 4, 6]), (13, [1, 4, 6]), (12, [2]), (11, [1, 4, 6, 65]), (9, [1, 4, 6, 46]), (8, [1, 4, 6]), (4, [1, 3, 4, 5]), (7, [1, 3, 4, 5]), (6, [2]), (5, [1, 3, 4, 5, 32]), (3, [1, 3, 4, 5, 13]), (2, [1, 3, 4, 5]), (1, [1, 3, 4]), (0, [1])], loops := loopsOf [(9, ([1, 4, 6], [(4, (9, 1))])), (3, ([1, 3, 4, 5], [(3, (9, 1))]))], boxes := boxesOf [] }
theorem ty8 : (E8).ty = ty := rfl
theorem call8 (f : Nat) (args : List V) (S : St) : (E8).call f args S = callOf ([(19, v19)]) f args S := rfl
theorem nw8 (f : Nat) : (E8).news f = newsOf [] f := rfl
theorem md8 (f : Nat) : (E8).mode f = modeOf [(19, 1)] f := rfl
theorem rw8 : (E8).rows = false := rfl
theorem kp8 (f : Nat) : (E8).keep f = keepOf [(14, [2]), (10, [1, 4, 6]), (13, [1, 4, 6]), (12, [2]), (11, [1, 4, 6, 65]), (9, [1, 4, 6, 46]), (8, [1, 4, 6]), (4, [1, 3, 4, 5]), (7, [1, 3, 4, 5]), (6, [2]), (5, [1, 3, 4, 5, 32]), (3, [1, 3, 4, 5, 13]), (2, [1, 3, 4, 5]), (1, [1, 3, 4]), (0, [1])] f := rfl
theorem lp8 (f : Nat) : (E8).loops f = loopsOf [(9, ([1, 4, 6], [(4, (9, 1))])), (3, ([1, 3, 4, 5], [(3, (9, 1))]))] f := rfl
theorem bx8 (f : Nat) : (E8).boxes f = boxesOf [] f := rfl
noncomputable def v8 : Spec := fnSpec (E8) 1 Tryz.f8
theorem vv8 (args : List V) (S : St) : v8 args S = fnSpec (E8) 1 Tryz.f8 args S := rfl
def u8 := And.intro @vv8 (And.intro @ty8 (And.intro @call8 (And.intro @nw8 (And.intro @md8 (And.intro @rw8 (And.intro @kp8 (And.intro @lp8 (@bx8))))))))
theorem ok8 : SoundAt Tryz.prog 8 (v8) := soundAt_of mixed tyOk rfl (by intro p hp; simp only [List.cons_append, List.nil_append, List.mem_cons, List.mem_append, List.not_mem_nil, or_false] at hp; rcases hp with rfl <;> first | exact ok19) (f := 8) (fn := Tryz.f8) (by kernel_rfl) (by kernel_rfl) (by kernel_rfl) _

/-! 87: slices.Clone[[]stevedore/api.Pod,stevedore/api.Pod] (1 parameters) -/
noncomputable def E87 : Env := { ty := ty, call := callOf ([]), news := newsOf [], mode := modeOf [], rows := true, keep := keepOf [(3, [2]), (2, [2]), (1, [0, 4]), (0, [0])], loops := loopsOf [], boxes := boxesOf [] }
theorem ty87 : (E87).ty = ty := rfl
theorem call87 (f : Nat) (args : List V) (S : St) : (E87).call f args S = callOf ([]) f args S := rfl
theorem nw87 (f : Nat) : (E87).news f = newsOf [] f := rfl
theorem md87 (f : Nat) : (E87).mode f = modeOf [] f := rfl
theorem rw87 : (E87).rows = true := rfl
theorem kp87 (f : Nat) : (E87).keep f = keepOf [(3, [2]), (2, [2]), (1, [0, 4]), (0, [0])] f := rfl
theorem lp87 (f : Nat) : (E87).loops f = loopsOf [] f := rfl
theorem bx87 (f : Nat) : (E87).boxes f = boxesOf [] f := rfl
noncomputable def wv87 : Spec := fnSpec (E87) 0 Tryz.f87
theorem vv87 (args : List V) (S : St) : wv87 args S = fnSpec (E87) 0 Tryz.f87 args S := rfl
def wu87 := And.intro @vv87 (And.intro @ty87 (And.intro @call87 (And.intro @nw87 (And.intro @md87 (And.intro @rw87 (And.intro @kp87 (And.intro @lp87 (@bx87))))))))
theorem wok87 : SoundAt Tryz.prog 87 (wv87) := soundAt_of mixed tyOk rfl (by intro p hp; simp at hp) (f := 87) (fn := Tryz.f87) (by kernel_rfl) (by kernel_rfl) (by kernel_rfl) _
theorem cl87_1 (x : D) (r : List D) (hall : (x :: r).all (fun x => x.cells.length == 16) = true) (hlen : (x :: r).length ≤ 2147483648) : wv87 [.d (.sl (x :: r))] [] = some (.sl 0 0 (x :: r).length, [.row 33 16 (x :: r)]) := by
  have hlen' : r.length ≤ 2147483647 := by simp at hlen; omega
  rw [List.all_cons] at hall
  simp only [wu87, Tryz.f87, sm, tys, Nat.reduceAdd, Nat.reduceSub, Nat.reduceEqDiff, Nat.reduceLeDiff, Nat.reduceLT, Nat.reduceMul, Nat.reduceBEq, ↓reduceIte, reduceCtorEq, Int.reduceLT, Int.reduceLE, Int.reduceGT, Int.reduceGE, Int.reduceBEq, Int.reduceBNe, Int.reduceEq, Int.reduceNe, Int.reduceAdd, Int.reduceSub, Int.reduceMul, Int.reduceNeg, Int.reduceToNat, hall, hlen']
theorem cl87_2 : wv87 [.nil] [] = some (.nil, []) := by
  simp only [wu87, Tryz.f87, sm, tys, Nat.reduceAdd, Nat.reduceSub, Nat.reduceEqDiff, Nat.reduceLeDiff, Nat.reduceLT, Nat.reduceMul, Nat.reduceBEq, ↓reduceIte, reduceCtorEq, Int.reduceLT, Int.reduceLE, Int.reduceGT, Int.reduceGE, Int.reduceBEq, Int.reduceBNe, Int.reduceEq, Int.reduceNe, Int.reduceAdd, Int.reduceSub, Int.reduceMul, Int.reduceNeg, Int.reduceToNat]
theorem cl87_3 : wv87 [.emp] [] = some (.sl 0 0 0, [.row 33 16 []]) := by
  simp only [wu87, Tryz.f87, sm, tys, Nat.reduceAdd, Nat.reduceSub, Nat.reduceEqDiff, Nat.reduceLeDiff, Nat.reduceLT, Nat.reduceMul, Nat.reduceBEq, ↓reduceIte, reduceCtorEq, Int.reduceLT, Int.reduceLE, Int.reduceGT, Int.reduceGE, Int.reduceBEq, Int.reduceBNe, Int.reduceEq, Int.reduceNe, Int.reduceAdd, Int.reduceSub, Int.reduceMul, Int.reduceNeg, Int.reduceToNat]
theorem cl87_4 (xs : List D) (lo n : Nat) (hn : 0 < n) (hall : ((xs.drop lo).take n).all (fun x => x.cells.length == 16) = true) (hlen : ((xs.drop lo).take n).length = n) (hmax : n ≤ 2147483648) : wv87 [.sl 0 lo n] [.row 33 16 xs] = some (.sl 1 0 n, [.row 33 16 xs, .row 33 16 ((xs.drop lo).take n)]) := by
  generalize hys : ((xs.drop lo).take n) = ys at *
  simp only [wu87, Tryz.f87, sm, tys, Nat.reduceAdd, Nat.reduceSub, Nat.reduceEqDiff, Nat.reduceLeDiff, Nat.reduceLT, Nat.reduceMul, Nat.reduceBEq, ↓reduceIte, reduceCtorEq, Int.reduceLT, Int.reduceLE, Int.reduceGT, Int.reduceGE, Int.reduceBEq, Int.reduceBNe, Int.reduceEq, Int.reduceNe, Int.reduceAdd, Int.reduceSub, Int.reduceMul, Int.reduceNeg, Int.reduceToNat, hn, hall, hlen, hmax, hys]
theorem cl87_5 (xs : List D) : wv87 [.nil] [.row 33 16 xs] = some (.nil, [.row 33 16 xs]) := by
  simp only [wu87, Tryz.f87, sm, tys, Nat.reduceAdd, Nat.reduceSub, Nat.reduceEqDiff, Nat.reduceLeDiff, Nat.reduceLT, Nat.reduceMul, Nat.reduceBEq, ↓reduceIte, reduceCtorEq, Int.reduceLT, Int.reduceLE, Int.reduceGT, Int.reduceGE, Int.reduceBEq, Int.reduceBNe, Int.reduceEq, Int.reduceNe, Int.reduceAdd, Int.reduceSub, Int.reduceMul, Int.reduceNeg, Int.reduceToNat]
theorem cl87_6 (xs : List D) : wv87 [.emp] [.row 33 16 xs] = some (.sl 1 0 0, [.row 33 16 xs, .row 33 16 []]) := by
  simp only [wu87, Tryz.f87, sm, tys, Nat.reduceAdd, Nat.reduceSub, Nat.reduceEqDiff, Nat.reduceLeDiff, Nat.reduceLT, Nat.reduceMul, Nat.reduceBEq, ↓reduceIte, reduceCtorEq, Int.reduceLT, Int.reduceLE, Int.reduceGT, Int.reduceGE, Int.reduceBEq, Int.reduceBNe, Int.reduceEq, Int.reduceNe, Int.reduceAdd, Int.reduceSub, Int.reduceMul, Int.reduceNeg, Int.reduceToNat]
noncomputable def v87 : Spec := cloneSpec true 33 16
theorem vc87 (xs : List D) : v87 [.d (.sl xs)] [] = if xs.all (fun x => x.cells.length == 16) then (if xs.length ≤ 2147483648 then some (.sl 0 0 xs.length, [.row 33 16 xs]) else none) else none := rfl
def u87 := @vc87
theorem vcl87 (xs : List D) (h1 : xs.all (fun x => x.cells.length == 16) = true) (h3 : xs.length ≤ 2147483648) : v87 [.sl 0 0 xs.length] [.row 33 16 xs] = some (.sl 1 0 xs.length, [.row 33 16 xs, .row 33 16 xs]) := clone_all true 33 16 xs h1 h3
theorem ok87 : SoundAt Tryz.prog 87 v87 := clone_sound (rows := true) (e := 33) (sz := 16) wok87 cl87_1 cl87_2 cl87_3 cl87_4 cl87_5 cl87_6

/-! 88: slices.Clone[[]stevedore/api.Node,stevedore/api.Node] (1 parameters) -/
noncomputable def E88 : Env := { ty := ty, call := callOf ([]), news := newsOf [], mode := modeOf [], rows := true, keep := keepOf [(3, [2]), (2, [2]), (1, [0, 4]), (0, [0])], loops := loopsOf [], boxes := boxesOf [] }
theorem ty88 : (E88).ty = ty := rfl
theorem call88 (f : Nat) (args : List V) (S : St) : (E88).call f args S = callOf ([]) f args S := rfl
theorem nw88 (f : Nat) : (E88).news f = newsOf [] f := rfl
theorem md88 (f : Nat) : (E88).mode f = modeOf [] f := rfl
theorem rw88 : (E88).rows = true := rfl
theorem kp88 (f : Nat) : (E88).keep f = keepOf [(3, [2]), (2, [2]), (1, [0, 4]), (0, [0])] f := rfl
theorem lp88 (f : Nat) : (E88).loops f = loopsOf [] f := rfl
theorem bx88 (f : Nat) : (E88).boxes f = boxesOf [] f := rfl
noncomputable def wv88 : Spec := fnSpec (E88) 0 Tryz.f88
theorem vv88 (args : List V) (S : St) : wv88 args S = fnSpec (E88) 0 Tryz.f88 args S := rfl
def wu88 := And.intro @vv88 (And.intro @ty88 (And.intro @call88 (And.intro @nw88 (And.intro @md88 (And.intro @rw88 (And.intro @kp88 (And.intro @lp88 (@bx88))))))))
theorem wok88 : SoundAt Tryz.prog 88 (wv88) := soundAt_of mixed tyOk rfl (by intro p hp; simp at hp) (f := 88) (fn := Tryz.f88) (by kernel_rfl) (by kernel_rfl) (by kernel_rfl) _
theorem cl88_1 (x : D) (r : List D) (hall : (x :: r).all (fun x => x.cells.length == 9) = true) (hlen : (x :: r).length ≤ 2147483648) : wv88 [.d (.sl (x :: r))] [] = some (.sl 0 0 (x :: r).length, [.row 36 9 (x :: r)]) := by
  have hlen' : r.length ≤ 2147483647 := by simp at hlen; omega
  rw [List.all_cons] at hall
  simp only [wu88, Tryz.f88, sm, tys, Nat.reduceAdd, Nat.reduceSub, Nat.reduceEqDiff, Nat.reduceLeDiff, Nat.reduceLT, Nat.reduceMul, Nat.reduceBEq, ↓reduceIte, reduceCtorEq, Int.reduceLT, Int.reduceLE, Int.reduceGT, Int.reduceGE, Int.reduceBEq, Int.reduceBNe, Int.reduceEq, Int.reduceNe, Int.reduceAdd, Int.reduceSub, Int.reduceMul, Int.reduceNeg, Int.reduceToNat, hall, hlen']
theorem cl88_2 : wv88 [.nil] [] = some (.nil, []) := by
  simp only [wu88, Tryz.f88, sm, tys, Nat.reduceAdd, Nat.reduceSub, Nat.reduceEqDiff, Nat.reduceLeDiff, Nat.reduceLT, Nat.reduceMul, Nat.reduceBEq, ↓reduceIte, reduceCtorEq, Int.reduceLT, Int.reduceLE, Int.reduceGT, Int.reduceGE, Int.reduceBEq, Int.reduceBNe, Int.reduceEq, Int.reduceNe, Int.reduceAdd, Int.reduceSub, Int.reduceMul, Int.reduceNeg, Int.reduceToNat]
theorem cl88_3 : wv88 [.emp] [] = some (.sl 0 0 0, [.row 36 9 []]) := by
  simp only [wu88, Tryz.f88, sm, tys, Nat.reduceAdd, Nat.reduceSub, Nat.reduceEqDiff, Nat.reduceLeDiff, Nat.reduceLT, Nat.reduceMul, Nat.reduceBEq, ↓reduceIte, reduceCtorEq, Int.reduceLT, Int.reduceLE, Int.reduceGT, Int.reduceGE, Int.reduceBEq, Int.reduceBNe, Int.reduceEq, Int.reduceNe, Int.reduceAdd, Int.reduceSub, Int.reduceMul, Int.reduceNeg, Int.reduceToNat]
theorem cl88_4 (xs : List D) (lo n : Nat) (hn : 0 < n) (hall : ((xs.drop lo).take n).all (fun x => x.cells.length == 9) = true) (hlen : ((xs.drop lo).take n).length = n) (hmax : n ≤ 2147483648) : wv88 [.sl 0 lo n] [.row 36 9 xs] = some (.sl 1 0 n, [.row 36 9 xs, .row 36 9 ((xs.drop lo).take n)]) := by
  generalize hys : ((xs.drop lo).take n) = ys at *
  simp only [wu88, Tryz.f88, sm, tys, Nat.reduceAdd, Nat.reduceSub, Nat.reduceEqDiff, Nat.reduceLeDiff, Nat.reduceLT, Nat.reduceMul, Nat.reduceBEq, ↓reduceIte, reduceCtorEq, Int.reduceLT, Int.reduceLE, Int.reduceGT, Int.reduceGE, Int.reduceBEq, Int.reduceBNe, Int.reduceEq, Int.reduceNe, Int.reduceAdd, Int.reduceSub, Int.reduceMul, Int.reduceNeg, Int.reduceToNat, hn, hall, hlen, hmax, hys]
theorem cl88_5 (xs : List D) : wv88 [.nil] [.row 36 9 xs] = some (.nil, [.row 36 9 xs]) := by
  simp only [wu88, Tryz.f88, sm, tys, Nat.reduceAdd, Nat.reduceSub, Nat.reduceEqDiff, Nat.reduceLeDiff, Nat.reduceLT, Nat.reduceMul, Nat.reduceBEq, ↓reduceIte, reduceCtorEq, Int.reduceLT, Int.reduceLE, Int.reduceGT, Int.reduceGE, Int.reduceBEq, Int.reduceBNe, Int.reduceEq, Int.reduceNe, Int.reduceAdd, Int.reduceSub, Int.reduceMul, Int.reduceNeg, Int.reduceToNat]
theorem cl88_6 (xs : List D) : wv88 [.emp] [.row 36 9 xs] = some (.sl 1 0 0, [.row 36 9 xs, .row 36 9 []]) := by
  simp only [wu88, Tryz.f88, sm, tys, Nat.reduceAdd, Nat.reduceSub, Nat.reduceEqDiff, Nat.reduceLeDiff, Nat.reduceLT, Nat.reduceMul, Nat.reduceBEq, ↓reduceIte, reduceCtorEq, Int.reduceLT, Int.reduceLE, Int.reduceGT, Int.reduceGE, Int.reduceBEq, Int.reduceBNe, Int.reduceEq, Int.reduceNe, Int.reduceAdd, Int.reduceSub, Int.reduceMul, Int.reduceNeg, Int.reduceToNat]
noncomputable def v88 : Spec := cloneSpec true 36 9
theorem vc88 (xs : List D) : v88 [.d (.sl xs)] [] = if xs.all (fun x => x.cells.length == 9) then (if xs.length ≤ 2147483648 then some (.sl 0 0 xs.length, [.row 36 9 xs]) else none) else none := rfl
def u88 := @vc88
theorem vcl88 (xs : List D) (h1 : xs.all (fun x => x.cells.length == 9) = true) (h3 : xs.length ≤ 2147483648) : v88 [.sl 0 0 xs.length] [.row 36 9 xs] = some (.sl 1 0 xs.length, [.row 36 9 xs, .row 36 9 xs]) := clone_all true 36 9 xs h1 h3
theorem ok88 : SoundAt Tryz.prog 88 v88 := clone_sound (rows := true) (e := 36) (sz := 9) wok88 cl88_1 cl88_2 cl88_3 cl88_4 cl88_5 cl88_6

/-! 89: slices.Clone[[]stevedore/api.Class,stevedore/api.Class] (1 parameters) -/
noncomputable def E89 : Env := { ty := ty, call := callOf ([]), news := newsOf [], mode := modeOf [], rows := true, keep := keepOf [(3, [2]), (2, [2]), (1, [0, 4]), (0, [0])], loops := loopsOf [], boxes := boxesOf [] }
theorem ty89 : (E89).ty = ty := rfl
theorem call89 (f : Nat) (args : List V) (S : St) : (E89).call f args S = callOf ([]) f args S := rfl
theorem nw89 (f : Nat) : (E89).news f = newsOf [] f := rfl
theorem md89 (f : Nat) : (E89).mode f = modeOf [] f := rfl
theorem rw89 : (E89).rows = true := rfl
theorem kp89 (f : Nat) : (E89).keep f = keepOf [(3, [2]), (2, [2]), (1, [0, 4]), (0, [0])] f := rfl
theorem lp89 (f : Nat) : (E89).loops f = loopsOf [] f := rfl
theorem bx89 (f : Nat) : (E89).boxes f = boxesOf [] f := rfl
noncomputable def wv89 : Spec := fnSpec (E89) 0 Tryz.f89
theorem vv89 (args : List V) (S : St) : wv89 args S = fnSpec (E89) 0 Tryz.f89 args S := rfl
def wu89 := And.intro @vv89 (And.intro @ty89 (And.intro @call89 (And.intro @nw89 (And.intro @md89 (And.intro @rw89 (And.intro @kp89 (And.intro @lp89 (@bx89))))))))
theorem wok89 : SoundAt Tryz.prog 89 (wv89) := soundAt_of mixed tyOk rfl (by intro p hp; simp at hp) (f := 89) (fn := Tryz.f89) (by kernel_rfl) (by kernel_rfl) (by kernel_rfl) _
theorem cl89_1 (x : D) (r : List D) (hall : (x :: r).all (fun x => x.cells.length == 2) = true) (hlen : (x :: r).length ≤ 2147483648) : wv89 [.d (.sl (x :: r))] [] = some (.sl 0 0 (x :: r).length, [.row 71 2 (x :: r)]) := by
  have hlen' : r.length ≤ 2147483647 := by simp at hlen; omega
  rw [List.all_cons] at hall
  simp only [wu89, Tryz.f89, sm, tys, Nat.reduceAdd, Nat.reduceSub, Nat.reduceEqDiff, Nat.reduceLeDiff, Nat.reduceLT, Nat.reduceMul, Nat.reduceBEq, ↓reduceIte, reduceCtorEq, Int.reduceLT, Int.reduceLE, Int.reduceGT, Int.reduceGE, Int.reduceBEq, Int.reduceBNe, Int.reduceEq, Int.reduceNe, Int.reduceAdd, Int.reduceSub, Int.reduceMul, Int.reduceNeg, Int.reduceToNat, hall, hlen']
theorem cl89_2 : wv89 [.nil] [] = some (.nil, []) := by
  simp only [wu89, Tryz.f89, sm, tys, Nat.reduceAdd, Nat.reduceSub, Nat.reduceEqDiff, Nat.reduceLeDiff, Nat.reduceLT, Nat.reduceMul, Nat.reduceBEq, ↓reduceIte, reduceCtorEq, Int.reduceLT, Int.reduceLE, Int.reduceGT, Int.reduceGE, Int.reduceBEq, Int.reduceBNe, Int.reduceEq, Int.reduceNe, Int.reduceAdd, Int.reduceSub, Int.reduceMul, Int.reduceNeg, Int.reduceToNat]
theorem cl89_3 : wv89 [.emp] [] = some (.sl 0 0 0, [.row 71 2 []]) := by
  simp only [wu89, Tryz.f89, sm, tys, Nat.reduceAdd, Nat.reduceSub, Nat.reduceEqDiff, Nat.reduceLeDiff, Nat.reduceLT, Nat.reduceMul, Nat.reduceBEq, ↓reduceIte, reduceCtorEq, Int.reduceLT, Int.reduceLE, Int.reduceGT, Int.reduceGE, Int.reduceBEq, Int.reduceBNe, Int.reduceEq, Int.reduceNe, Int.reduceAdd, Int.reduceSub, Int.reduceMul, Int.reduceNeg, Int.reduceToNat]
theorem cl89_4 (xs : List D) (lo n : Nat) (hn : 0 < n) (hall : ((xs.drop lo).take n).all (fun x => x.cells.length == 2) = true) (hlen : ((xs.drop lo).take n).length = n) (hmax : n ≤ 2147483648) : wv89 [.sl 0 lo n] [.row 71 2 xs] = some (.sl 1 0 n, [.row 71 2 xs, .row 71 2 ((xs.drop lo).take n)]) := by
  generalize hys : ((xs.drop lo).take n) = ys at *
  simp only [wu89, Tryz.f89, sm, tys, Nat.reduceAdd, Nat.reduceSub, Nat.reduceEqDiff, Nat.reduceLeDiff, Nat.reduceLT, Nat.reduceMul, Nat.reduceBEq, ↓reduceIte, reduceCtorEq, Int.reduceLT, Int.reduceLE, Int.reduceGT, Int.reduceGE, Int.reduceBEq, Int.reduceBNe, Int.reduceEq, Int.reduceNe, Int.reduceAdd, Int.reduceSub, Int.reduceMul, Int.reduceNeg, Int.reduceToNat, hn, hall, hlen, hmax, hys]
theorem cl89_5 (xs : List D) : wv89 [.nil] [.row 71 2 xs] = some (.nil, [.row 71 2 xs]) := by
  simp only [wu89, Tryz.f89, sm, tys, Nat.reduceAdd, Nat.reduceSub, Nat.reduceEqDiff, Nat.reduceLeDiff, Nat.reduceLT, Nat.reduceMul, Nat.reduceBEq, ↓reduceIte, reduceCtorEq, Int.reduceLT, Int.reduceLE, Int.reduceGT, Int.reduceGE, Int.reduceBEq, Int.reduceBNe, Int.reduceEq, Int.reduceNe, Int.reduceAdd, Int.reduceSub, Int.reduceMul, Int.reduceNeg, Int.reduceToNat]
theorem cl89_6 (xs : List D) : wv89 [.emp] [.row 71 2 xs] = some (.sl 1 0 0, [.row 71 2 xs, .row 71 2 []]) := by
  simp only [wu89, Tryz.f89, sm, tys, Nat.reduceAdd, Nat.reduceSub, Nat.reduceEqDiff, Nat.reduceLeDiff, Nat.reduceLT, Nat.reduceMul, Nat.reduceBEq, ↓reduceIte, reduceCtorEq, Int.reduceLT, Int.reduceLE, Int.reduceGT, Int.reduceGE, Int.reduceBEq, Int.reduceBNe, Int.reduceEq, Int.reduceNe, Int.reduceAdd, Int.reduceSub, Int.reduceMul, Int.reduceNeg, Int.reduceToNat]
noncomputable def v89 : Spec := cloneSpec true 71 2
theorem vc89 (xs : List D) : v89 [.d (.sl xs)] [] = if xs.all (fun x => x.cells.length == 2) then (if xs.length ≤ 2147483648 then some (.sl 0 0 xs.length, [.row 71 2 xs]) else none) else none := rfl
def u89 := @vc89
theorem vcl89 (xs : List D) (h1 : xs.all (fun x => x.cells.length == 2) = true) (h3 : xs.length ≤ 2147483648) : v89 [.sl 0 0 xs.length] [.row 71 2 xs] = some (.sl 1 0 xs.length, [.row 71 2 xs, .row 71 2 xs]) := clone_all true 71 2 xs h1 h3
theorem ok89 : SoundAt Tryz.prog 89 v89 := clone_sound (rows := true) (e := 71) (sz := 2) wok89 cl89_1 cl89_2 cl89_3 cl89_4 cl89_5 cl89_6

/-! 90: slices.Clone[[]stevedore/api.Budget,stevedore/api.Budget] (1 parameters) -/
noncomputable def E90 : Env := { ty := ty, call := callOf ([]), news := newsOf [], mode := modeOf [], rows := true, keep := keepOf [(3, [2]), (2, [2]), (1, [0, 4]), (0, [0])], loops := loopsOf [], boxes := boxesOf [] }
theorem ty90 : (E90).ty = ty := rfl
theorem call90 (f : Nat) (args : List V) (S : St) : (E90).call f args S = callOf ([]) f args S := rfl
theorem nw90 (f : Nat) : (E90).news f = newsOf [] f := rfl
theorem md90 (f : Nat) : (E90).mode f = modeOf [] f := rfl
theorem rw90 : (E90).rows = true := rfl
theorem kp90 (f : Nat) : (E90).keep f = keepOf [(3, [2]), (2, [2]), (1, [0, 4]), (0, [0])] f := rfl
theorem lp90 (f : Nat) : (E90).loops f = loopsOf [] f := rfl
theorem bx90 (f : Nat) : (E90).boxes f = boxesOf [] f := rfl
noncomputable def wv90 : Spec := fnSpec (E90) 0 Tryz.f90
theorem vv90 (args : List V) (S : St) : wv90 args S = fnSpec (E90) 0 Tryz.f90 args S := rfl
def wu90 := And.intro @vv90 (And.intro @ty90 (And.intro @call90 (And.intro @nw90 (And.intro @md90 (And.intro @rw90 (And.intro @kp90 (And.intro @lp90 (@bx90))))))))
theorem wok90 : SoundAt Tryz.prog 90 (wv90) := soundAt_of mixed tyOk rfl (by intro p hp; simp at hp) (f := 90) (fn := Tryz.f90) (by kernel_rfl) (by kernel_rfl) (by kernel_rfl) _
theorem cl90_1 (x : D) (r : List D) (hall : (x :: r).all (fun x => x.cells.length == 3) = true) (hlen : (x :: r).length ≤ 2147483648) : wv90 [.d (.sl (x :: r))] [] = some (.sl 0 0 (x :: r).length, [.row 78 3 (x :: r)]) := by
  have hlen' : r.length ≤ 2147483647 := by simp at hlen; omega
  rw [List.all_cons] at hall
  simp only [wu90, Tryz.f90, sm, tys, Nat.reduceAdd, Nat.reduceSub, Nat.reduceEqDiff, Nat.reduceLeDiff, Nat.reduceLT, Nat.reduceMul, Nat.reduceBEq, ↓reduceIte, reduceCtorEq, Int.reduceLT, Int.reduceLE, Int.reduceGT, Int.reduceGE, Int.reduceBEq, Int.reduceBNe, Int.reduceEq, Int.reduceNe, Int.reduceAdd, Int.reduceSub, Int.reduceMul, Int.reduceNeg, Int.reduceToNat, hall, hlen']
theorem cl90_2 : wv90 [.nil] [] = some (.nil, []) := by
  simp only [wu90, Tryz.f90, sm, tys, Nat.reduceAdd, Nat.reduceSub, Nat.reduceEqDiff, Nat.reduceLeDiff, Nat.reduceLT, Nat.reduceMul, Nat.reduceBEq, ↓reduceIte, reduceCtorEq, Int.reduceLT, Int.reduceLE, Int.reduceGT, Int.reduceGE, Int.reduceBEq, Int.reduceBNe, Int.reduceEq, Int.reduceNe, Int.reduceAdd, Int.reduceSub, Int.reduceMul, Int.reduceNeg, Int.reduceToNat]
theorem cl90_3 : wv90 [.emp] [] = some (.sl 0 0 0, [.row 78 3 []]) := by
  simp only [wu90, Tryz.f90, sm, tys, Nat.reduceAdd, Nat.reduceSub, Nat.reduceEqDiff, Nat.reduceLeDiff, Nat.reduceLT, Nat.reduceMul, Nat.reduceBEq, ↓reduceIte, reduceCtorEq, Int.reduceLT, Int.reduceLE, Int.reduceGT, Int.reduceGE, Int.reduceBEq, Int.reduceBNe, Int.reduceEq, Int.reduceNe, Int.reduceAdd, Int.reduceSub, Int.reduceMul, Int.reduceNeg, Int.reduceToNat]
theorem cl90_4 (xs : List D) (lo n : Nat) (hn : 0 < n) (hall : ((xs.drop lo).take n).all (fun x => x.cells.length == 3) = true) (hlen : ((xs.drop lo).take n).length = n) (hmax : n ≤ 2147483648) : wv90 [.sl 0 lo n] [.row 78 3 xs] = some (.sl 1 0 n, [.row 78 3 xs, .row 78 3 ((xs.drop lo).take n)]) := by
  generalize hys : ((xs.drop lo).take n) = ys at *
  simp only [wu90, Tryz.f90, sm, tys, Nat.reduceAdd, Nat.reduceSub, Nat.reduceEqDiff, Nat.reduceLeDiff, Nat.reduceLT, Nat.reduceMul, Nat.reduceBEq, ↓reduceIte, reduceCtorEq, Int.reduceLT, Int.reduceLE, Int.reduceGT, Int.reduceGE, Int.reduceBEq, Int.reduceBNe, Int.reduceEq, Int.reduceNe, Int.reduceAdd, Int.reduceSub, Int.reduceMul, Int.reduceNeg, Int.reduceToNat, hn, hall, hlen, hmax, hys]
theorem cl90_5 (xs : List D) : wv90 [.nil] [.row 78 3 xs] = some (.nil, [.row 78 3 xs]) := by
  simp only [wu90, Tryz.f90, sm, tys, Nat.reduceAdd, Nat.reduceSub, Nat.reduceEqDiff, Nat.reduceLeDiff, Nat.reduceLT, Nat.reduceMul, Nat.reduceBEq, ↓reduceIte, reduceCtorEq, Int.reduceLT, Int.reduceLE, Int.reduceGT, Int.reduceGE, Int.reduceBEq, Int.reduceBNe, Int.reduceEq, Int.reduceNe, Int.reduceAdd, Int.reduceSub, Int.reduceMul, Int.reduceNeg, Int.reduceToNat]
theorem cl90_6 (xs : List D) : wv90 [.emp] [.row 78 3 xs] = some (.sl 1 0 0, [.row 78 3 xs, .row 78 3 []]) := by
  simp only [wu90, Tryz.f90, sm, tys, Nat.reduceAdd, Nat.reduceSub, Nat.reduceEqDiff, Nat.reduceLeDiff, Nat.reduceLT, Nat.reduceMul, Nat.reduceBEq, ↓reduceIte, reduceCtorEq, Int.reduceLT, Int.reduceLE, Int.reduceGT, Int.reduceGE, Int.reduceBEq, Int.reduceBNe, Int.reduceEq, Int.reduceNe, Int.reduceAdd, Int.reduceSub, Int.reduceMul, Int.reduceNeg, Int.reduceToNat]
noncomputable def v90 : Spec := cloneSpec true 78 3
theorem vc90 (xs : List D) : v90 [.d (.sl xs)] [] = if xs.all (fun x => x.cells.length == 3) then (if xs.length ≤ 2147483648 then some (.sl 0 0 xs.length, [.row 78 3 xs]) else none) else none := rfl
def u90 := @vc90
theorem vcl90 (xs : List D) (h1 : xs.all (fun x => x.cells.length == 3) = true) (h3 : xs.length ≤ 2147483648) : v90 [.sl 0 0 xs.length] [.row 78 3 xs] = some (.sl 1 0 xs.length, [.row 78 3 xs, .row 78 3 xs]) := clone_all true 78 3 xs h1 h3
theorem ok90 : SoundAt Tryz.prog 90 v90 := clone_sound (rows := true) (e := 78) (sz := 3) wok90 cl90_1 cl90_2 cl90_3 cl90_4 cl90_5 cl90_6

/-! 91: slices.Clone[[]stevedore/api.Claim,stevedore/api.Claim] (1 parameters) -/
noncomputable def E91 : Env := { ty := ty, call := callOf ([]), news := newsOf [], mode := modeOf [], rows := true, keep := keepOf [(3, [2]), (2, [2]), (1, [0, 4]), (0, [0])], loops := loopsOf [], boxes := boxesOf [] }
theorem ty91 : (E91).ty = ty := rfl
theorem call91 (f : Nat) (args : List V) (S : St) : (E91).call f args S = callOf ([]) f args S := rfl
theorem nw91 (f : Nat) : (E91).news f = newsOf [] f := rfl
theorem md91 (f : Nat) : (E91).mode f = modeOf [] f := rfl
theorem rw91 : (E91).rows = true := rfl
theorem kp91 (f : Nat) : (E91).keep f = keepOf [(3, [2]), (2, [2]), (1, [0, 4]), (0, [0])] f := rfl
theorem lp91 (f : Nat) : (E91).loops f = loopsOf [] f := rfl
theorem bx91 (f : Nat) : (E91).boxes f = boxesOf [] f := rfl
noncomputable def wv91 : Spec := fnSpec (E91) 0 Tryz.f91
theorem vv91 (args : List V) (S : St) : wv91 args S = fnSpec (E91) 0 Tryz.f91 args S := rfl
def wu91 := And.intro @vv91 (And.intro @ty91 (And.intro @call91 (And.intro @nw91 (And.intro @md91 (And.intro @rw91 (And.intro @kp91 (And.intro @lp91 (@bx91))))))))
theorem wok91 : SoundAt Tryz.prog 91 (wv91) := soundAt_of mixed tyOk rfl (by intro p hp; simp at hp) (f := 91) (fn := Tryz.f91) (by kernel_rfl) (by kernel_rfl) (by kernel_rfl) _
theorem cl91_1 (x : D) (r : List D) (hall : (x :: r).all (fun x => x.cells.length == 4) = true) (hlen : (x :: r).length ≤ 2147483648) : wv91 [.d (.sl (x :: r))] [] = some (.sl 0 0 (x :: r).length, [.row 61 4 (x :: r)]) := by
  have hlen' : r.length ≤ 2147483647 := by simp at hlen; omega
  rw [List.all_cons] at hall
  simp only [wu91, Tryz.f91, sm, tys, Nat.reduceAdd, Nat.reduceSub, Nat.reduceEqDiff, Nat.reduceLeDiff, Nat.reduceLT, Nat.reduceMul, Nat.reduceBEq, ↓reduceIte, reduceCtorEq, Int.reduceLT, Int.reduceLE, Int.reduceGT, Int.reduceGE, Int.reduceBEq, Int.reduceBNe, Int.reduceEq, Int.reduceNe, Int.reduceAdd, Int.reduceSub, Int.reduceMul, Int.reduceNeg, Int.reduceToNat, hall, hlen']
theorem cl91_2 : wv91 [.nil] [] = some (.nil, []) := by
  simp only [wu91, Tryz.f91, sm, tys, Nat.reduceAdd, Nat.reduceSub, Nat.reduceEqDiff, Nat.reduceLeDiff, Nat.reduceLT, Nat.reduceMul, Nat.reduceBEq, ↓reduceIte, reduceCtorEq, Int.reduceLT, Int.reduceLE, Int.reduceGT, Int.reduceGE, Int.reduceBEq, Int.reduceBNe, Int.reduceEq, Int.reduceNe, Int.reduceAdd, Int.reduceSub, Int.reduceMul, Int.reduceNeg, Int.reduceToNat]
theorem cl91_3 : wv91 [.emp] [] = some (.sl 0 0 0, [.row 61 4 []]) := by
  simp only [wu91, Tryz.f91, sm, tys, Nat.reduceAdd, Nat.reduceSub, Nat.reduceEqDiff, Nat.reduceLeDiff, Nat.reduceLT, Nat.reduceMul, Nat.reduceBEq, ↓reduceIte, reduceCtorEq, Int.reduceLT, Int.reduceLE, Int.reduceGT, Int.reduceGE, Int.reduceBEq, Int.reduceBNe, Int.reduceEq, Int.reduceNe, Int.reduceAdd, Int.reduceSub, Int.reduceMul, Int.reduceNeg, Int.reduceToNat]
theorem cl91_4 (xs : List D) (lo n : Nat) (hn : 0 < n) (hall : ((xs.drop lo).take n).all (fun x => x.cells.length == 4) = true) (hlen : ((xs.drop lo).take n).length = n) (hmax : n ≤ 2147483648) : wv91 [.sl 0 lo n] [.row 61 4 xs] = some (.sl 1 0 n, [.row 61 4 xs, .row 61 4 ((xs.drop lo).take n)]) := by
  generalize hys : ((xs.drop lo).take n) = ys at *
  simp only [wu91, Tryz.f91, sm, tys, Nat.reduceAdd, Nat.reduceSub, Nat.reduceEqDiff, Nat.reduceLeDiff, Nat.reduceLT, Nat.reduceMul, Nat.reduceBEq, ↓reduceIte, reduceCtorEq, Int.reduceLT, Int.reduceLE, Int.reduceGT, Int.reduceGE, Int.reduceBEq, Int.reduceBNe, Int.reduceEq, Int.reduceNe, Int.reduceAdd, Int.reduceSub, Int.reduceMul, Int.reduceNeg, Int.reduceToNat, hn, hall, hlen, hmax, hys]
theorem cl91_5 (xs : List D) : wv91 [.nil] [.row 61 4 xs] = some (.nil, [.row 61 4 xs]) := by
  simp only [wu91, Tryz.f91, sm, tys, Nat.reduceAdd, Nat.reduceSub, Nat.reduceEqDiff, Nat.reduceLeDiff, Nat.reduceLT, Nat.reduceMul, Nat.reduceBEq, ↓reduceIte, reduceCtorEq, Int.reduceLT, Int.reduceLE, Int.reduceGT, Int.reduceGE, Int.reduceBEq, Int.reduceBNe, Int.reduceEq, Int.reduceNe, Int.reduceAdd, Int.reduceSub, Int.reduceMul, Int.reduceNeg, Int.reduceToNat]
theorem cl91_6 (xs : List D) : wv91 [.emp] [.row 61 4 xs] = some (.sl 1 0 0, [.row 61 4 xs, .row 61 4 []]) := by
  simp only [wu91, Tryz.f91, sm, tys, Nat.reduceAdd, Nat.reduceSub, Nat.reduceEqDiff, Nat.reduceLeDiff, Nat.reduceLT, Nat.reduceMul, Nat.reduceBEq, ↓reduceIte, reduceCtorEq, Int.reduceLT, Int.reduceLE, Int.reduceGT, Int.reduceGE, Int.reduceBEq, Int.reduceBNe, Int.reduceEq, Int.reduceNe, Int.reduceAdd, Int.reduceSub, Int.reduceMul, Int.reduceNeg, Int.reduceToNat]
noncomputable def v91 : Spec := cloneSpec true 61 4
theorem vc91 (xs : List D) : v91 [.d (.sl xs)] [] = if xs.all (fun x => x.cells.length == 4) then (if xs.length ≤ 2147483648 then some (.sl 0 0 xs.length, [.row 61 4 xs]) else none) else none := rfl
def u91 := @vc91
theorem vcl91 (xs : List D) (h1 : xs.all (fun x => x.cells.length == 4) = true) (h3 : xs.length ≤ 2147483648) : v91 [.sl 0 0 xs.length] [.row 61 4 xs] = some (.sl 1 0 xs.length, [.row 61 4 xs, .row 61 4 xs]) := clone_all true 61 4 xs h1 h3
theorem ok91 : SoundAt Tryz.prog 91 v91 := clone_sound (rows := true) (e := 61) (sz := 4) wok91 cl91_1 cl91_2 cl91_3 cl91_4 cl91_5 cl91_6

/-! 52: stevedore/volume.own (1 parameters) -/
noncomputable def E52 : Env := { ty := ty, call := callOf ([(87, v87), (88, v88), (89, v89), (90, v90), (91, v91), (71, v71)]), news := newsOf [(87, 1), (88, 1), (89, 1), (90, 1), (91, 1), (71, 1)], mode := modeOf [], rows := false, keep := keepOf [(3, [2]), (2, [1, 2]), (1, [1, 2]), (0, [1, 2])], loops := loopsOf [], boxes := boxesOf [] }
theorem ty52 : (E52).ty = ty := rfl
theorem call52 (f : Nat) (args : List V) (S : St) : (E52).call f args S = callOf ([(87, v87), (88, v88), (89, v89), (90, v90), (91, v91), (71, v71)]) f args S := rfl
theorem nw52 (f : Nat) : (E52).news f = newsOf [(87, 1), (88, 1), (89, 1), (90, 1), (91, 1), (71, 1)] f := rfl
theorem md52 (f : Nat) : (E52).mode f = modeOf [] f := rfl
theorem rw52 : (E52).rows = false := rfl
theorem kp52 (f : Nat) : (E52).keep f = keepOf [(3, [2]), (2, [1, 2]), (1, [1, 2]), (0, [1, 2])] f := rfl
theorem lp52 (f : Nat) : (E52).loops f = loopsOf [] f := rfl
theorem bx52 (f : Nat) : (E52).boxes f = boxesOf [] f := rfl
noncomputable def v52 : Spec := fnSpec (E52) 0 Tryz.f52
theorem vv52 (args : List V) (S : St) : v52 args S = fnSpec (E52) 0 Tryz.f52 args S := rfl
def u52 := And.intro @vv52 (And.intro @ty52 (And.intro @call52 (And.intro @nw52 (And.intro @md52 (And.intro @rw52 (And.intro @kp52 (And.intro @lp52 (@bx52))))))))
theorem ok52 : SoundAt Tryz.prog 52 (v52) := soundAt_of mixed tyOk rfl (by intro p hp; simp only [List.cons_append, List.nil_append, List.mem_cons, List.mem_append, List.not_mem_nil, or_false] at hp; rcases hp with rfl | rfl | rfl | rfl | rfl | rfl <;> first | exact ok87 | exact ok88 | exact ok89 | exact ok90 | exact ok91 | exact ok71) (f := 52) (fn := Tryz.f52) (by kernel_rfl) (by kernel_rfl) (by kernel_rfl) _

/-! 29: stevedore/volume.each (3 parameters) -/
noncomputable def E29 (cl : List (Nat × Spec)) : Env := { ty := ty, call := callOf ([(52, v52), (41, v41 ([(42, v42), (40, v40)] ++ cl)), (39, v39 ([(42, v42), (40, v40)] ++ cl)), (42, v42), (40, v40)] ++ cl), news := newsOf [(52, 6)], mode := modeOf [(41, 1), (39, 1)], rows := false, keep := keepOf [(11, [6, 7]), (10, [2, 6, 8, 15, 16, 17]), (7, [6, 7]), (9, [6, 7]), (8, [2, 6, 8, 15, 16, 17, 39]), (6, [2, 6, 8, 11, 12, 15, 16, 17, 31]), (5, [2, 6, 8, 11, 12, 15, 16, 17]), (4, [2, 6, 8, 10, 15, 16, 17]), (3, [2, 6, 8, 15, 16, 17, 18]), (2, [2, 6, 8, 15, 16, 17]), (1, [1, 2, 6, 8]), (0, [1, 2, 3, 6])], loops := loopsOf [(3, ([2, 6, 8, 15, 16, 17], []))], boxes := boxesOf [] }
theorem ty29 (cl : List (Nat × Spec)) : (E29 cl).ty = ty := rfl
theorem call29 (cl : List (Nat × Spec)) (f : Nat) (args : List V) (S : St) : (E29 cl).call f args S = callOf ([(52, v52), (41, v41 ([(42, v42), (40, v40)] ++ cl)), (39, v39 ([(42, v42), (40, v40)] ++ cl)), (42, v42), (40, v40)] ++ cl) f args S := rfl
theorem nw29 (cl : List (Nat × Spec)) (f : Nat) : (E29 cl).news f = newsOf [(52, 6)] f := rfl
theorem md29 (cl : List (Nat × Spec)) (f : Nat) : (E29 cl).mode f = modeOf [(41, 1), (39, 1)] f := rfl
theorem rw29 (cl : List (Nat × Spec)) : (E29 cl).rows = false := rfl
theorem kp29 (cl : List (Nat × Spec)) (f : Nat) : (E29 cl).keep f = keepOf [(11, [6, 7]), (10, [2, 6, 8, 15, 16, 17]), (7, [6, 7]), (9, [6, 7]), (8, [2, 6, 8, 15, 16, 17, 39]), (6, [2, 6, 8, 11, 12, 15, 16, 17, 31]), (5, [2, 6, 8, 11, 12, 15, 16, 17]), (4, [2, 6, 8, 10, 15, 16, 17]), (3, [2, 6, 8, 15, 16, 17, 18]), (2, [2, 6, 8, 15, 16, 17]), (1, [1, 2, 6, 8]), (0, [1, 2, 3, 6])] f := rfl
theorem lp29 (cl : List (Nat × Spec)) (f : Nat) : (E29 cl).loops f = loopsOf [(3, ([2, 6, 8, 15, 16, 17], []))] f := rfl
theorem bx29 (cl : List (Nat × Spec)) (f : Nat) : (E29 cl).boxes f = boxesOf [] f := rfl
noncomputable def v29 (cl : List (Nat × Spec)) : Spec := fnSpec (E29 cl) 0 Tryz.f29
theorem vv29 (cl : List (Nat × Spec)) (args : List V) (S : St) : v29 cl args S = fnSpec (E29 cl) 0 Tryz.f29 args S := rfl
def u29 := And.intro @vv29 (And.intro @ty29 (And.intro @call29 (And.intro @nw29 (And.intro @md29 (And.intro @rw29 (And.intro @kp29 (And.intro @lp29 (@bx29))))))))
theorem ok29 (cl : List (Nat × Spec)) (hcl : ∀ p ∈ cl, SoundAt Tryz.prog p.1 p.2) : SoundAt Tryz.prog 29 (v29 cl) := soundAt_of mixed tyOk rfl (by intro p hp; simp only [List.cons_append, List.nil_append, List.mem_cons, List.mem_append, List.not_mem_nil, or_false] at hp; rcases hp with rfl | rfl | rfl | rfl | rfl | hp <;> first | exact ok52 | exact ok41 _ (fun p hp => by simp only [List.cons_append, List.nil_append, List.mem_cons, List.mem_append, List.not_mem_nil, or_false] at hp; rcases hp with rfl | rfl | hp <;> first | exact ok42 | exact ok40 | exact hcl p hp) | exact ok39 _ (fun p hp => by simp only [List.cons_append, List.nil_append, List.mem_cons, List.mem_append, List.not_mem_nil, or_false] at hp; rcases hp with rfl | rfl | hp <;> first | exact ok42 | exact ok40 | exact hcl p hp) | exact ok42 | exact ok40 | exact hcl p hp) (f := 29) (fn := Tryz.f29) (by kernel_rfl) (by kernel_rfl) (by kernel_rfl) _

/-! 30: stevedore/volume.Apply$1 (2 parameters) -/
noncomputable def E30 : Env := { ty := ty, call := callOf ([]), news := newsOf [], mode := modeOf [], rows := false, keep := keepOf [(4, [4]), (3, []), (2, [4]), (1, [0, 1, 38]), (0, [0, 1])], loops := loopsOf [], boxes := boxesOf [] }
theorem ty30 : (E30).ty = ty := rfl
theorem call30 (f : Nat) (args : List V) (S : St) : (E30).call f args S = callOf ([]) f args S := rfl
theorem nw30 (f : Nat) : (E30).news f = newsOf [] f := rfl
theorem md30 (f : Nat) : (E30).mode f = modeOf [] f := rfl
theorem rw30 : (E30).rows = false := rfl
theorem kp30 (f : Nat) : (E30).keep f = keepOf [(4, [4]), (3, []), (2, [4]), (1, [0, 1, 38]), (0, [0, 1])] f := rfl
theorem lp30 (f : Nat) : (E30).loops f = loopsOf [] f := rfl
theorem bx30 (f : Nat) : (E30).boxes f = boxesOf [] f := rfl
noncomputable def v30 : Spec := fnSpec (E30) 1 Tryz.f30
theorem vv30 (args : List V) (S : St) : v30 args S = fnSpec (E30) 1 Tryz.f30 args S := rfl
def u30 := And.intro @vv30 (And.intro @ty30 (And.intro @call30 (And.intro @nw30 (And.intro @md30 (And.intro @rw30 (And.intro @kp30 (And.intro @lp30 (@bx30))))))))
theorem ok30 : SoundAt Tryz.prog 30 (v30) := soundAt_of mixed tyOk rfl (by intro p hp; simp at hp) (f := 30) (fn := Tryz.f30) (by kernel_rfl) (by kernel_rfl) (by kernel_rfl) _

/-! 12: stevedore/volume.Apply (2 parameters) -/
noncomputable def E12 : Env := { ty := ty, call := callOf ([(29, v29 ([(30, v30)])), (30, v30)]), news := newsOf [(29, 6)], mode := modeOf [(29, 2)], rows := false, keep := keepOf [(1, [4, 5]), (0, [1, 2, 4])], loops := loopsOf [], boxes := boxesOf [] }
theorem ty12 : (E12).ty = ty := rfl
theorem call12 (f : Nat) (args : List V) (S : St) : (E12).call f args S = callOf ([(29, v29 ([(30, v30)])), (30, v30)]) f args S := rfl
theorem nw12 (f : Nat) : (E12).news f = newsOf [(29, 6)] f := rfl
theorem md12 (f : Nat) : (E12).mode f = modeOf [(29, 2)] f := rfl
theorem rw12 : (E12).rows = false := rfl
theorem kp12 (f : Nat) : (E12).keep f = keepOf [(1, [4, 5]), (0, [1, 2, 4])] f := rfl
theorem lp12 (f : Nat) : (E12).loops f = loopsOf [] f := rfl
theorem bx12 (f : Nat) : (E12).boxes f = boxesOf [] f := rfl
noncomputable def v12 : Spec := fnSpec (E12) 0 Tryz.f12
theorem vv12 (args : List V) (S : St) : v12 args S = fnSpec (E12) 0 Tryz.f12 args S := rfl
def u12 := And.intro @vv12 (And.intro @ty12 (And.intro @call12 (And.intro @nw12 (And.intro @md12 (And.intro @rw12 (And.intro @kp12 (And.intro @lp12 (@bx12))))))))
theorem ok12 : SoundAt Tryz.prog 12 (v12) := soundAt_of mixed tyOk rfl (by intro p hp; simp only [List.cons_append, List.nil_append, List.mem_cons, List.mem_append, List.not_mem_nil, or_false] at hp; rcases hp with rfl | rfl <;> first | exact ok29 _ (fun p hp => by simp only [List.cons_append, List.nil_append, List.mem_cons, List.mem_append, List.not_mem_nil, or_false] at hp; rcases hp with rfl <;> first | exact ok30) | exact ok30) (f := 12) (fn := Tryz.f12) (by kernel_rfl) (by kernel_rfl) (by kernel_rfl) _

/-! 58: stevedore/stevedorebase.SameLabels (2 parameters) -/
noncomputable def E58 : Env := { ty := ty, call := callOf ([]), news := newsOf [], mode := modeOf [], rows := false, keep := keepOf [(8, [4]), (5, [0, 1, 5]), (7, [4]), (6, [0, 1, 5, 25]), (4, [0, 1, 5, 14]), (3, [0, 1, 5]), (2, [4]), (1, [0, 1, 10]), (0, [0, 1])], loops := loopsOf [(4, ([0, 1, 5], []))], boxes := boxesOf [] }
theorem ty58 : (E58).ty = ty := rfl
theorem call58 (f : Nat) (args : List V) (S : St) : (E58).call f args S = callOf ([]) f args S := rfl
theorem nw58 (f : Nat) : (E58).news f = newsOf [] f := rfl
theorem md58 (f : Nat) : (E58).mode f = modeOf [] f := rfl
theorem rw58 : (E58).rows = false := rfl
theorem kp58 (f : Nat) : (E58).keep f = keepOf [(8, [4]), (5, [0, 1, 5]), (7, [4]), (6, [0, 1, 5, 25]), (4, [0, 1, 5, 14]), (3, [0, 1, 5]), (2, [4]), (1, [0, 1, 10]), (0, [0, 1])] f := rfl
theorem lp58 (f : Nat) : (E58).loops f = loopsOf [(4, ([0, 1, 5], []))] f := rfl
theorem bx58 (f : Nat) : (E58).boxes f = boxesOf [] f := rfl
noncomputable def v58 : Spec := fnSpec (E58) 1 Tryz.f58
theorem vv58 (args : List V) (S : St) : v58 args S = fnSpec (E58) 1 Tryz.f58 args S := rfl
def u58 := And.intro @vv58 (And.intro @ty58 (And.intro @call58 (And.intro @nw58 (And.intro @md58 (And.intro @rw58 (And.intro @kp58 (And.intro @lp58 (@bx58))))))))
theorem ok58 : SoundAt Tryz.prog 58 (v58) := soundAt_of mixed tyOk rfl (by intro p hp; simp at hp) (f := 58) (fn := Tryz.f58) (by kernel_rfl) (by kernel_rfl) (by kernel_rfl) _

/-! 62: stevedore/stevedorebase.SameTexts (2 parameters) -/
noncomputable def E62 : Env := { ty := ty, call := callOf ([]), news := newsOf [], mode := modeOf [], rows := false, keep := keepOf [(8, [4]), (5, [0, 1, 5]), (7, [4]), (6, [0, 1, 5, 25]), (4, [0, 1, 5, 14]), (3, [0, 1, 5]), (2, [4]), (1, [0, 1, 10]), (0, [0, 1])], loops := loopsOf [(4, ([0, 1, 5], []))], boxes := boxesOf [] }
theorem ty62 : (E62).ty = ty := rfl
theorem call62 (f : Nat) (args : List V) (S : St) : (E62).call f args S = callOf ([]) f args S := rfl
theorem nw62 (f : Nat) : (E62).news f = newsOf [] f := rfl
theorem md62 (f : Nat) : (E62).mode f = modeOf [] f := rfl
theorem rw62 : (E62).rows = false := rfl
theorem kp62 (f : Nat) : (E62).keep f = keepOf [(8, [4]), (5, [0, 1, 5]), (7, [4]), (6, [0, 1, 5, 25]), (4, [0, 1, 5, 14]), (3, [0, 1, 5]), (2, [4]), (1, [0, 1, 10]), (0, [0, 1])] f := rfl
theorem lp62 (f : Nat) : (E62).loops f = loopsOf [(4, ([0, 1, 5], []))] f := rfl
theorem bx62 (f : Nat) : (E62).boxes f = boxesOf [] f := rfl
noncomputable def v62 : Spec := fnSpec (E62) 1 Tryz.f62
theorem vv62 (args : List V) (S : St) : v62 args S = fnSpec (E62) 1 Tryz.f62 args S := rfl
def u62 := And.intro @vv62 (And.intro @ty62 (And.intro @call62 (And.intro @nw62 (And.intro @md62 (And.intro @rw62 (And.intro @kp62 (And.intro @lp62 (@bx62))))))))
theorem ok62 : SoundAt Tryz.prog 62 (v62) := soundAt_of mixed tyOk rfl (by intro p hp; simp at hp) (f := 62) (fn := Tryz.f62) (by kernel_rfl) (by kernel_rfl) (by kernel_rfl) _

/-! 59: stevedore/stevedorebase.SameReqs (2 parameters) -/
noncomputable def E59 : Env := { ty := ty, call := callOf ([(62, v62)]), news := newsOf [], mode := modeOf [], rows := false, keep := keepOf [(8, [4]), (5, [0, 1, 5]), (7, [4]), (6, [0, 1, 5, 54]), (4, [0, 1, 5, 14]), (3, [0, 1, 5]), (2, [4]), (1, [0, 1, 10]), (0, [0, 1])], loops := loopsOf [(4, ([0, 1, 5], []))], boxes := boxesOf [] }
theorem ty59 : (E59).ty = ty := rfl
theorem call59 (f : Nat) (args : List V) (S : St) : (E59).call f args S = callOf ([(62, v62)]) f args S := rfl
theorem nw59 (f : Nat) : (E59).news f = newsOf [] f := rfl
theorem md59 (f : Nat) : (E59).mode f = modeOf [] f := rfl
theorem rw59 : (E59).rows = false := rfl
theorem kp59 (f : Nat) : (E59).keep f = keepOf [(8, [4]), (5, [0, 1, 5]), (7, [4]), (6, [0, 1, 5, 54]), (4, [0, 1, 5, 14]), (3, [0, 1, 5]), (2, [4]), (1, [0, 1, 10]), (0, [0, 1])] f := rfl
theorem lp59 (f : Nat) : (E59).loops f = loopsOf [(4, ([0, 1, 5], []))] f := rfl
theorem bx59 (f : Nat) : (E59).boxes f = boxesOf [] f := rfl
noncomputable def v59 : Spec := fnSpec (E59) 1 Tryz.f59
theorem vv59 (args : List V) (S : St) : v59 args S = fnSpec (E59) 1 Tryz.f59 args S := rfl
def u59 := And.intro @vv59 (And.intro @ty59 (And.intro @call59 (And.intro @nw59 (And.intro @md59 (And.intro @rw59 (And.intro @kp59 (And.intro @lp59 (@bx59))))))))
theorem ok59 : SoundAt Tryz.prog 59 (v59) := soundAt_of mixed tyOk rfl (by intro p hp; simp only [List.cons_append, List.nil_append, List.mem_cons, List.mem_append, List.not_mem_nil, or_false] at hp; rcases hp with rfl <;> first | exact ok62) (f := 59) (fn := Tryz.f59) (by kernel_rfl) (by kernel_rfl) (by kernel_rfl) _

/-! 60: stevedore/stevedorebase.SameInts (2 parameters) -/
noncomputable def E60 : Env := { ty := ty, call := callOf ([]), news := newsOf [], mode := modeOf [], rows := false, keep := keepOf [(8, [4]), (5, [0, 1, 5]), (7, [4]), (6, [0, 1, 5, 25]), (4, [0, 1, 5, 14]), (3, [0, 1, 5]), (2, [4]), (1, [0, 1, 10]), (0, [0, 1])], loops := loopsOf [(4, ([0, 1, 5], []))], boxes := boxesOf [] }
theorem ty60 : (E60).ty = ty := rfl
theorem call60 (f : Nat) (args : List V) (S : St) : (E60).call f args S = callOf ([]) f args S := rfl
theorem nw60 (f : Nat) : (E60).news f = newsOf [] f := rfl
theorem md60 (f : Nat) : (E60).mode f = modeOf [] f := rfl
theorem rw60 : (E60).rows = false := rfl
theorem kp60 (f : Nat) : (E60).keep f = keepOf [(8, [4]), (5, [0, 1, 5]), (7, [4]), (6, [0, 1, 5, 25]), (4, [0, 1, 5, 14]), (3, [0, 1, 5]), (2, [4]), (1, [0, 1, 10]), (0, [0, 1])] f := rfl
theorem lp60 (f : Nat) : (E60).loops f = loopsOf [(4, ([0, 1, 5], []))] f := rfl
theorem bx60 (f : Nat) : (E60).boxes f = boxesOf [] f := rfl
noncomputable def v60 : Spec := fnSpec (E60) 1 Tryz.f60
theorem vv60 (args : List V) (S : St) : v60 args S = fnSpec (E60) 1 Tryz.f60 args S := rfl
def u60 := And.intro @vv60 (And.intro @ty60 (And.intro @call60 (And.intro @nw60 (And.intro @md60 (And.intro @rw60 (And.intro @kp60 (And.intro @lp60 (@bx60))))))))
theorem ok60 : SoundAt Tryz.prog 60 (v60) := soundAt_of mixed tyOk rfl (by intro p hp; simp at hp) (f := 60) (fn := Tryz.f60) (by kernel_rfl) (by kernel_rfl) (by kernel_rfl) _

/-! 61: stevedore/stevedorebase.sameTerms (2 parameters) -/
noncomputable def E61 : Env := { ty := ty, call := callOf ([(59, v59)]), news := newsOf [], mode := modeOf [], rows := false, keep := keepOf [(8, [4]), (5, [0, 1, 5]), (7, [4]), (6, [0, 1, 5, 41]), (4, [0, 1, 5, 14]), (3, [0, 1, 5]), (2, [4]), (1, [0, 1, 10]), (0, [0, 1])], loops := loopsOf [(4, ([0, 1, 5], []))], boxes := boxesOf [] }
theorem ty61 : (E61).ty = ty := rfl
theorem call61 (f : Nat) (args : List V) (S : St) : (E61).call f args S = callOf ([(59, v59)]) f args S := rfl
theorem nw61 (f : Nat) : (E61).news f = newsOf [] f := rfl
theorem md61 (f : Nat) : (E61).mode f = modeOf [] f := rfl
theorem rw61 : (E61).rows = false := rfl
theorem kp61 (f : Nat) : (E61).keep f = keepOf [(8, [4]), (5, [0, 1, 5]), (7, [4]), (6, [0, 1, 5, 41]), (4, [0, 1, 5, 14]), (3, [0, 1, 5]), (2, [4]), (1, [0, 1, 10]), (0, [0, 1])] f := rfl
theorem lp61 (f : Nat) : (E61).loops f = loopsOf [(4, ([0, 1, 5], []))] f := rfl
theorem bx61 (f : Nat) : (E61).boxes f = boxesOf [] f := rfl
noncomputable def v61 : Spec := fnSpec (E61) 1 Tryz.f61
theorem vv61 (args : List V) (S : St) : v61 args S = fnSpec (E61) 1 Tryz.f61 args S := rfl
def u61 := And.intro @vv61 (And.intro @ty61 (And.intro @call61 (And.intro @nw61 (And.intro @md61 (And.intro @rw61 (And.intro @kp61 (And.intro @lp61 (@bx61))))))))
theorem ok61 : SoundAt Tryz.prog 61 (v61) := soundAt_of mixed tyOk rfl (by intro p hp; simp only [List.cons_append, List.nil_append, List.mem_cons, List.mem_append, List.not_mem_nil, or_false] at hp; rcases hp with rfl <;> first | exact ok59) (f := 61) (fn := Tryz.f61) (by kernel_rfl) (by kernel_rfl) (by kernel_rfl) _

/-! 32: stevedore/stevedorebase.SamePod (2 parameters) -/
noncomputable def E32 : Env := { ty := ty, call := callOf ([(58, v58), (59, v59), (60, v60), (61, v61), (62, v62)]), news := newsOf [], mode := modeOf [], rows := false, keep := keepOf [(21, [4]), (17, [2, 3, 7]), (20, [4]), (19, [2, 3, 7, 213]), (18, [2, 3, 7, 8, 9]), (16, [2, 3, 7, 174]), (15, [2, 3, 7]), (12, [2, 3, 6]), (14, [4]), (13, [2, 3, 6, 169]), (11, [2, 3, 6, 138]), (10, [2, 3, 6]), (7, [2, 3, 5]), (9, [4]), (8, [2, 3, 5, 133]), (6, [2, 3, 5, 120]), (5, [2, 3, 5]), (4, [4]), (3, [2, 3, 115]), (2, [4]), (1, [2, 3, 90]), (0, [2, 3])], loops := loopsOf [(16, ([2, 3, 7], [])), (11, ([2, 3, 6], [])), (6, ([2, 3, 5], []))], boxes := boxesOf [] }
theorem ty32 : (E32).ty = ty := rfl
theorem call32 (f : Nat) (args : List V) (S : St) : (E32).call f args S = callOf ([(58, v58), (59, v59), (60, v60), (61, v61), (62, v62)]) f args S := rfl
theorem nw32 (f : Nat) : (E32).news f = newsOf [] f := rfl
theorem md32 (f : Nat) : (E32).mode f = modeOf [] f := rfl
theorem rw32 : (E32).rows = false := rfl
theorem kp32 (f : Nat) : (E32).keep f = keepOf [(21, [4]), (17, [2, 3, 7]), (20, [4]), (19, [2, 3, 7, 213]), (18, [2, 3, 7, 8, 9]), (16, [2, 3, 7, 174]), (15, [2, 3, 7]), (12, [2, 3, 6]), (14, [4]), (13, [2, 3, 6, 169]), (11, [2, 3, 6, 138]), (10, [2, 3, 6]), (7, [2, 3, 5]), (9, [4]), (8, [2, 3, 5, 133]), (6, [2, 3, 5, 120]), (5, [2, 3, 5]), (4, [4]), (3, [2, 3, 115]), (2, [4]), (1, [2, 3, 90]), (0, [2, 3])] f := rfl
theorem lp32 (f : Nat) : (E32).loops f = loopsOf [(16, ([2, 3, 7], [])), (11, ([2, 3, 6], [])), (6, ([2, 3, 5], []))] f := rfl
theorem bx32 (f : Nat) : (E32).boxes f = boxesOf [] f := rfl
noncomputable def v32 : Spec := fnSpec (E32) 1 Tryz.f32
theorem vv32 (args : List V) (S : St) : v32 args S = fnSpec (E32) 1 Tryz.f32 args S := rfl
def u32 := And.intro @vv32 (And.intro @ty32 (And.intro @call32 (And.intro @nw32 (And.intro @md32 (And.intro @rw32 (And.intro @kp32 (And.intro @lp32 (@bx32))))))))
theorem ok32 : SoundAt Tryz.prog 32 (v32) := soundAt_of mixed tyOk rfl (by intro p hp; simp only [List.cons_append, List.nil_append, List.mem_cons, List.mem_append, List.not_mem_nil, or_false] at hp; rcases hp with rfl | rfl | rfl | rfl | rfl <;> first | exact ok58 | exact ok59 | exact ok60 | exact ok61 | exact ok62) (f := 32) (fn := Tryz.f32) (by kernel_rfl) (by kernel_rfl) (by kernel_rfl) _

/-! 33: stevedore/stevedorebase.SameNode (2 parameters) -/
noncomputable def E33 : Env := { ty := ty, call := callOf ([(58, v58)]), news := newsOf [], mode := modeOf [], rows := false, keep := keepOf [(8, [4]), (5, [2, 3, 5]), (7, [4]), (6, [2, 3, 5, 73]), (4, [2, 3, 5, 60]), (3, [2, 3, 5]), (2, [4]), (1, [2, 3, 55]), (0, [2, 3])], loops := loopsOf [(4, ([2, 3, 5], []))], boxes := boxesOf [] }
theorem ty33 : (E33).ty = ty := rfl
theorem call33 (f : Nat) (args : List V) (S : St) : (E33).call f args S = callOf ([(58, v58)]) f args S := rfl
theorem nw33 (f : Nat) : (E33).news f = newsOf [] f := rfl
theorem md33 (f : Nat) : (E33).mode f = modeOf [] f := rfl
theorem rw33 : (E33).rows = false := rfl
theorem kp33 (f : Nat) : (E33).keep f = keepOf [(8, [4]), (5, [2, 3, 5]), (7, [4]), (6, [2, 3, 5, 73]), (4, [2, 3, 5, 60]), (3, [2, 3, 5]), (2, [4]), (1, [2, 3, 55]), (0, [2, 3])] f := rfl
theorem lp33 (f : Nat) : (E33).loops f = loopsOf [(4, ([2, 3, 5], []))] f := rfl
theorem bx33 (f : Nat) : (E33).boxes f = boxesOf [] f := rfl
noncomputable def v33 : Spec := fnSpec (E33) 1 Tryz.f33
theorem vv33 (args : List V) (S : St) : v33 args S = fnSpec (E33) 1 Tryz.f33 args S := rfl
def u33 := And.intro @vv33 (And.intro @ty33 (And.intro @call33 (And.intro @nw33 (And.intro @md33 (And.intro @rw33 (And.intro @kp33 (And.intro @lp33 (@bx33))))))))
theorem ok33 : SoundAt Tryz.prog 33 (v33) := soundAt_of mixed tyOk rfl (by intro p hp; simp only [List.cons_append, List.nil_append, List.mem_cons, List.mem_append, List.not_mem_nil, or_false] at hp; rcases hp with rfl <;> first | exact ok58) (f := 33) (fn := Tryz.f33) (by kernel_rfl) (by kernel_rfl) (by kernel_rfl) _

/-! 34: stevedore/stevedorebase.SameVolume (2 parameters) -/
noncomputable def E34 : Env := { ty := ty, call := callOf ([(59, v59)]), news := newsOf [], mode := modeOf [], rows := false, keep := keepOf [(1, [4]), (0, [2, 3])], loops := loopsOf [], boxes := boxesOf [] }
theorem ty34 : (E34).ty = ty := rfl
theorem call34 (f : Nat) (args : List V) (S : St) : (E34).call f args S = callOf ([(59, v59)]) f args S := rfl
theorem nw34 (f : Nat) : (E34).news f = newsOf [] f := rfl
theorem md34 (f : Nat) : (E34).mode f = modeOf [] f := rfl
theorem rw34 : (E34).rows = false := rfl
theorem kp34 (f : Nat) : (E34).keep f = keepOf [(1, [4]), (0, [2, 3])] f := rfl
theorem lp34 (f : Nat) : (E34).loops f = loopsOf [] f := rfl
theorem bx34 (f : Nat) : (E34).boxes f = boxesOf [] f := rfl
noncomputable def v34 : Spec := fnSpec (E34) 1 Tryz.f34
theorem vv34 (args : List V) (S : St) : v34 args S = fnSpec (E34) 1 Tryz.f34 args S := rfl
def u34 := And.intro @vv34 (And.intro @ty34 (And.intro @call34 (And.intro @nw34 (And.intro @md34 (And.intro @rw34 (And.intro @kp34 (And.intro @lp34 (@bx34))))))))
theorem ok34 : SoundAt Tryz.prog 34 (v34) := soundAt_of mixed tyOk rfl (by intro p hp; simp only [List.cons_append, List.nil_append, List.mem_cons, List.mem_append, List.not_mem_nil, or_false] at hp; rcases hp with rfl <;> first | exact ok59) (f := 34) (fn := Tryz.f34) (by kernel_rfl) (by kernel_rfl) (by kernel_rfl) _

/-! 35: stevedore/stevedorebase.SameBudget (2 parameters) -/
noncomputable def E35 : Env := { ty := ty, call := callOf ([(59, v59)]), news := newsOf [], mode := modeOf [], rows := false, keep := keepOf [(1, [4]), (0, [2, 3])], loops := loopsOf [], boxes := boxesOf [] }
theorem ty35 : (E35).ty = ty := rfl
theorem call35 (f : Nat) (args : List V) (S : St) : (E35).call f args S = callOf ([(59, v59)]) f args S := rfl
theorem nw35 (f : Nat) : (E35).news f = newsOf [] f := rfl
theorem md35 (f : Nat) : (E35).mode f = modeOf [] f := rfl
theorem rw35 : (E35).rows = false := rfl
theorem kp35 (f : Nat) : (E35).keep f = keepOf [(1, [4]), (0, [2, 3])] f := rfl
theorem lp35 (f : Nat) : (E35).loops f = loopsOf [] f := rfl
theorem bx35 (f : Nat) : (E35).boxes f = boxesOf [] f := rfl
noncomputable def v35 : Spec := fnSpec (E35) 1 Tryz.f35
theorem vv35 (args : List V) (S : St) : v35 args S = fnSpec (E35) 1 Tryz.f35 args S := rfl
def u35 := And.intro @vv35 (And.intro @ty35 (And.intro @call35 (And.intro @nw35 (And.intro @md35 (And.intro @rw35 (And.intro @kp35 (And.intro @lp35 (@bx35))))))))
theorem ok35 : SoundAt Tryz.prog 35 (v35) := soundAt_of mixed tyOk rfl (by intro p hp; simp only [List.cons_append, List.nil_append, List.mem_cons, List.mem_append, List.not_mem_nil, or_false] at hp; rcases hp with rfl <;> first | exact ok59) (f := 35) (fn := Tryz.f35) (by kernel_rfl) (by kernel_rfl) (by kernel_rfl) _

/-! 14: stevedore/stevedorebase.SameState (2 parameters) -/
noncomputable def E14 : Env := { ty := ty, call := callOf ([(32, v32), (33, v33), (34, v34), (35, v35)]), news := newsOf [], mode := modeOf [], rows := false, keep := keepOf [(33, [4]), (30, [2, 3, 10]), (32, [4]), (31, [2, 3, 10, 174]), (29, [2, 3, 10, 160]), (28, [2, 3, 10]), (25, [2, 3, 9]), (27, [4]), (26, [2, 3, 9, 155]), (24, [2, 3, 9, 142]), (23, [2, 3, 9]), (20, [2, 3, 8]), (22, [4]), (21, [2, 3, 8, 137]), (19, [2, 3, 8, 124]), (18, [2, 3, 8]), (15, [2, 3, 7]), (17, [4]), (16, [2, 3, 7, 119]), (14, [2, 3, 7, 105]), (13, [2, 3, 7]), (10, [2, 3, 6]), (12, [4]), (11, [2, 3, 6, 100]), (9, [2, 3, 6, 86]), (8, [2, 3, 6]), (5, [2, 3, 5]), (7, [4]), (6, [2, 3, 5, 81]), (4, [2, 3, 5, 67]), (3, [2, 3, 5]), (2, [4]), (1, [2, 3, 62]), (0, [2, 3])], loops := loopsOf [(29, ([2, 3, 10], [])), (24, ([2, 3, 9], [])), (19, ([2, 3, 8], [])), (14, ([2, 3, 7], [])), (9, ([2, 3, 6], [])), (4, ([2, 3, 5], []))], boxes := boxesOf [] }
theorem ty14 : (E14).ty = ty := rfl
theorem call14 (f : Nat) (args : List V) (S : St) : (E14).call f args S = callOf ([(32, v32), (33, v33), (34, v34), (35, v35)]) f args S := rfl
theorem nw14 (f : Nat) : (E14).news f = newsOf [] f := rfl
theorem md14 (f : Nat) : (E14).mode f = modeOf [] f := rfl
theorem rw14 : (E14).rows = false := rfl
theorem kp14 (f : Nat) : (E14).keep f = keepOf [(33, [4]), (30, [2, 3, 10]), (32, [4]), (31, [2, 3, 10, 174]), (29, [2, 3, 10, 160]), (28, [2, 3, 10]), (25, [2, 3, 9]), (27, [4]), (26, [2, 3, 9, 155]), (24, [2, 3, 9, 142]), (23, [2, 3, 9]), (20, [2, 3, 8]), (22, [4]), (21, [2, 3, 8, 137]), (19, [2, 3, 8, 124]), (18, [2, 3, 8]), (15, [2, 3, 7]), (17, [4]), (16, [2, 3, 7, 119]), (14, [2, 3, 7, 105]), (13, [2, 3, 7]), (10, [2, 3, 6]), (12, [4]), (11, [2, 3, 6, 100]), (9, [2, 3, 6, 86]), (8, [2, 3, 6]), (5, [2, 3, 5]), (7, [4]), (6, [2, 3, 5, 81]), (4, [2, 3, 5, 67]), (3, [2, 3, 5]), (2, [4]), (1, [2, 3, 62]), (0, [2, 3])] f := rfl
theorem lp14 (f : Nat) : (E14).loops f = loopsOf [(29, ([2, 3, 10], [])), (24, ([2, 3, 9], [])), (19, ([2, 3, 8], [])), (14, ([2, 3, 7], [])), (9, ([2, 3, 6], [])), (4, ([2, 3, 5], []))] f := rfl
theorem bx14 (f : Nat) : (E14).boxes f = boxesOf [] f := rfl
noncomputable def v14 : Spec := fnSpec (E14) 1 Tryz.f14
theorem vv14 (args : List V) (S : St) : v14 args S = fnSpec (E14) 1 Tryz.f14 args S := rfl
def u14 := And.intro @vv14 (And.intro @ty14 (And.intro @call14 (And.intro @nw14 (And.intro @md14 (And.intro @rw14 (And.intro @kp14 (And.intro @lp14 (@bx14))))))))
theorem ok14 : SoundAt Tryz.prog 14 (v14) := soundAt_of mixed tyOk rfl (by intro p hp; simp only [List.cons_append, List.nil_append, List.mem_cons, List.mem_append, List.not_mem_nil, or_false] at hp; rcases hp with rfl | rfl | rfl | rfl <;> first | exact ok32 | exact ok33 | exact ok34 | exact ok35) (f := 14) (fn := Tryz.f14) (by kernel_rfl) (by kernel_rfl) (by kernel_rfl) _

/-! 36: slices.Clone[[]stevedore/api.Pick,stevedore/api.Pick] (1 parameters) -/
noncomputable def E36 : Env := { ty := ty, call := callOf ([]), news := newsOf [], mode := modeOf [], rows := true, keep := keepOf [(3, [2]), (2, [2]), (1, [0, 4]), (0, [0])], loops := loopsOf [], boxes := boxesOf [] }
theorem ty36 : (E36).ty = ty := rfl
theorem call36 (f : Nat) (args : List V) (S : St) : (E36).call f args S = callOf ([]) f args S := rfl
theorem nw36 (f : Nat) : (E36).news f = newsOf [] f := rfl
theorem md36 (f : Nat) : (E36).mode f = modeOf [] f := rfl
theorem rw36 : (E36).rows = true := rfl
theorem kp36 (f : Nat) : (E36).keep f = keepOf [(3, [2]), (2, [2]), (1, [0, 4]), (0, [0])] f := rfl
theorem lp36 (f : Nat) : (E36).loops f = loopsOf [] f := rfl
theorem bx36 (f : Nat) : (E36).boxes f = boxesOf [] f := rfl
noncomputable def wv36 : Spec := fnSpec (E36) 0 Tryz.f36
theorem vv36 (args : List V) (S : St) : wv36 args S = fnSpec (E36) 0 Tryz.f36 args S := rfl
def wu36 := And.intro @vv36 (And.intro @ty36 (And.intro @call36 (And.intro @nw36 (And.intro @md36 (And.intro @rw36 (And.intro @kp36 (And.intro @lp36 (@bx36))))))))
theorem wok36 : SoundAt Tryz.prog 36 (wv36) := soundAt_of mixed tyOk rfl (by intro p hp; simp at hp) (f := 36) (fn := Tryz.f36) (by kernel_rfl) (by kernel_rfl) (by kernel_rfl) _
theorem cl36_1 (x : D) (r : List D) (hall : (x :: r).all (fun x => x.cells.length == 2) = true) (hlen : (x :: r).length ≤ 2147483648) : wv36 [.d (.sl (x :: r))] [] = some (.sl 0 0 (x :: r).length, [.row 67 2 (x :: r)]) := by
  have hlen' : r.length ≤ 2147483647 := by simp at hlen; omega
  rw [List.all_cons] at hall
  simp only [wu36, Tryz.f36, sm, tys, Nat.reduceAdd, Nat.reduceSub, Nat.reduceEqDiff, Nat.reduceLeDiff, Nat.reduceLT, Nat.reduceMul, Nat.reduceBEq, ↓reduceIte, reduceCtorEq, Int.reduceLT, Int.reduceLE, Int.reduceGT, Int.reduceGE, Int.reduceBEq, Int.reduceBNe, Int.reduceEq, Int.reduceNe, Int.reduceAdd, Int.reduceSub, Int.reduceMul, Int.reduceNeg, Int.reduceToNat, hall, hlen']
theorem cl36_2 : wv36 [.nil] [] = some (.nil, []) := by
  simp only [wu36, Tryz.f36, sm, tys, Nat.reduceAdd, Nat.reduceSub, Nat.reduceEqDiff, Nat.reduceLeDiff, Nat.reduceLT, Nat.reduceMul, Nat.reduceBEq, ↓reduceIte, reduceCtorEq, Int.reduceLT, Int.reduceLE, Int.reduceGT, Int.reduceGE, Int.reduceBEq, Int.reduceBNe, Int.reduceEq, Int.reduceNe, Int.reduceAdd, Int.reduceSub, Int.reduceMul, Int.reduceNeg, Int.reduceToNat]
theorem cl36_3 : wv36 [.emp] [] = some (.sl 0 0 0, [.row 67 2 []]) := by
  simp only [wu36, Tryz.f36, sm, tys, Nat.reduceAdd, Nat.reduceSub, Nat.reduceEqDiff, Nat.reduceLeDiff, Nat.reduceLT, Nat.reduceMul, Nat.reduceBEq, ↓reduceIte, reduceCtorEq, Int.reduceLT, Int.reduceLE, Int.reduceGT, Int.reduceGE, Int.reduceBEq, Int.reduceBNe, Int.reduceEq, Int.reduceNe, Int.reduceAdd, Int.reduceSub, Int.reduceMul, Int.reduceNeg, Int.reduceToNat]
theorem cl36_4 (xs : List D) (lo n : Nat) (hn : 0 < n) (hall : ((xs.drop lo).take n).all (fun x => x.cells.length == 2) = true) (hlen : ((xs.drop lo).take n).length = n) (hmax : n ≤ 2147483648) : wv36 [.sl 0 lo n] [.row 67 2 xs] = some (.sl 1 0 n, [.row 67 2 xs, .row 67 2 ((xs.drop lo).take n)]) := by
  generalize hys : ((xs.drop lo).take n) = ys at *
  simp only [wu36, Tryz.f36, sm, tys, Nat.reduceAdd, Nat.reduceSub, Nat.reduceEqDiff, Nat.reduceLeDiff, Nat.reduceLT, Nat.reduceMul, Nat.reduceBEq, ↓reduceIte, reduceCtorEq, Int.reduceLT, Int.reduceLE, Int.reduceGT, Int.reduceGE, Int.reduceBEq, Int.reduceBNe, Int.reduceEq, Int.reduceNe, Int.reduceAdd, Int.reduceSub, Int.reduceMul, Int.reduceNeg, Int.reduceToNat, hn, hall, hlen, hmax, hys]
theorem cl36_5 (xs : List D) : wv36 [.nil] [.row 67 2 xs] = some (.nil, [.row 67 2 xs]) := by
  simp only [wu36, Tryz.f36, sm, tys, Nat.reduceAdd, Nat.reduceSub, Nat.reduceEqDiff, Nat.reduceLeDiff, Nat.reduceLT, Nat.reduceMul, Nat.reduceBEq, ↓reduceIte, reduceCtorEq, Int.reduceLT, Int.reduceLE, Int.reduceGT, Int.reduceGE, Int.reduceBEq, Int.reduceBNe, Int.reduceEq, Int.reduceNe, Int.reduceAdd, Int.reduceSub, Int.reduceMul, Int.reduceNeg, Int.reduceToNat]
theorem cl36_6 (xs : List D) : wv36 [.emp] [.row 67 2 xs] = some (.sl 1 0 0, [.row 67 2 xs, .row 67 2 []]) := by
  simp only [wu36, Tryz.f36, sm, tys, Nat.reduceAdd, Nat.reduceSub, Nat.reduceEqDiff, Nat.reduceLeDiff, Nat.reduceLT, Nat.reduceMul, Nat.reduceBEq, ↓reduceIte, reduceCtorEq, Int.reduceLT, Int.reduceLE, Int.reduceGT, Int.reduceGE, Int.reduceBEq, Int.reduceBNe, Int.reduceEq, Int.reduceNe, Int.reduceAdd, Int.reduceSub, Int.reduceMul, Int.reduceNeg, Int.reduceToNat]
noncomputable def v36 : Spec := cloneSpec true 67 2
theorem vc36 (xs : List D) : v36 [.d (.sl xs)] [] = if xs.all (fun x => x.cells.length == 2) then (if xs.length ≤ 2147483648 then some (.sl 0 0 xs.length, [.row 67 2 xs]) else none) else none := rfl
def u36 := @vc36
theorem vcl36 (xs : List D) (h1 : xs.all (fun x => x.cells.length == 2) = true) (h3 : xs.length ≤ 2147483648) : v36 [.sl 0 0 xs.length] [.row 67 2 xs] = some (.sl 1 0 xs.length, [.row 67 2 xs, .row 67 2 xs]) := clone_all true 67 2 xs h1 h3
theorem ok36 : SoundAt Tryz.prog 36 v36 := clone_sound (rows := true) (e := 67) (sz := 2) wok36 cl36_1 cl36_2 cl36_3 cl36_4 cl36_5 cl36_6

/-! 37: slices.Reverse[[]stevedore/api.Pick,stevedore/api.Pick] (1 parameters) -/
noncomputable def E37 : Env := { ty := ty, call := callOf ([]), news := newsOf [], mode := modeOf [], rows := false, keep := keepOf [(2, [0, 2, 3]), (3, [0, 2, 3]), (1, [0, 2, 3, 9]), (0, [0, 2, 3])], loops := loopsOf [(1, ([0, 2, 3], []))], boxes := boxesOf [] }
theorem ty37 : (E37).ty = ty := rfl
theorem call37 (f : Nat) (args : List V) (S : St) : (E37).call f args S = callOf ([]) f args S := rfl
theorem nw37 (f : Nat) : (E37).news f = newsOf [] f := rfl
theorem md37 (f : Nat) : (E37).mode f = modeOf [] f := rfl
theorem rw37 : (E37).rows = false := rfl
theorem kp37 (f : Nat) : (E37).keep f = keepOf [(2, [0, 2, 3]), (3, [0, 2, 3]), (1, [0, 2, 3, 9]), (0, [0, 2, 3])] f := rfl
theorem lp37 (f : Nat) : (E37).loops f = loopsOf [(1, ([0, 2, 3], []))] f := rfl
theorem bx37 (f : Nat) : (E37).boxes f = boxesOf [] f := rfl
noncomputable def v37 : Spec := fnSpec (E37) 1 Tryz.f37
theorem vv37 (args : List V) (S : St) : v37 args S = fnSpec (E37) 1 Tryz.f37 args S := rfl
def u37 := And.intro @vv37 (And.intro @ty37 (And.intro @call37 (And.intro @nw37 (And.intro @md37 (And.intro @rw37 (And.intro @kp37 (And.intro @lp37 (@bx37))))))))
theorem ok37 : SoundAt Tryz.prog 37 (v37) := soundAt_of mixed tyOk rfl (by intro p hp; simp at hp) (f := 37) (fn := Tryz.f37) (by kernel_rfl) (by kernel_rfl) (by kernel_rfl) _

/-! 38: stevedore/volume.Undo$1 (2 parameters) -/
noncomputable def E38 : Env := { ty := ty, call := callOf ([]), news := newsOf [], mode := modeOf [], rows := false, keep := keepOf [(4, [4]), (3, []), (2, [4]), (1, [0, 1, 24]), (0, [0, 1])], loops := loopsOf [], boxes := boxesOf [] }
theorem ty38 : (E38).ty = ty := rfl
theorem call38 (f : Nat) (args : List V) (S : St) : (E38).call f args S = callOf ([]) f args S := rfl
theorem nw38 (f : Nat) : (E38).news f = newsOf [] f := rfl
theorem md38 (f : Nat) : (E38).mode f = modeOf [] f := rfl
theorem rw38 : (E38).rows = false := rfl
theorem kp38 (f : Nat) : (E38).keep f = keepOf [(4, [4]), (3, []), (2, [4]), (1, [0, 1, 24]), (0, [0, 1])] f := rfl
theorem lp38 (f : Nat) : (E38).loops f = loopsOf [] f := rfl
theorem bx38 (f : Nat) : (E38).boxes f = boxesOf [] f := rfl
noncomputable def v38 : Spec := fnSpec (E38) 1 Tryz.f38
theorem vv38 (args : List V) (S : St) : v38 args S = fnSpec (E38) 1 Tryz.f38 args S := rfl
def u38 := And.intro @vv38 (And.intro @ty38 (And.intro @call38 (And.intro @nw38 (And.intro @md38 (And.intro @rw38 (And.intro @kp38 (And.intro @lp38 (@bx38))))))))
theorem ok38 : SoundAt Tryz.prog 38 (v38) := soundAt_of mixed tyOk rfl (by intro p hp; simp at hp) (f := 38) (fn := Tryz.f38) (by kernel_rfl) (by kernel_rfl) (by kernel_rfl) _

/-! 15: stevedore/volume.Undo (2 parameters) -/
noncomputable def E15 : Env := { ty := ty, call := callOf ([(36, v36), (37, v37), (29, v29 ([(38, v38)])), (38, v38)]), news := newsOf [(36, 1), (29, 6)], mode := modeOf [(29, 2)], rows := false, keep := keepOf [(3, [4, 5]), (2, [2, 4, 6]), (1, [2, 4, 6]), (0, [1, 2, 4])], loops := loopsOf [], boxes := boxesOf [] }
theorem ty15 : (E15).ty = ty := rfl
theorem call15 (f : Nat) (args : List V) (S : St) : (E15).call f args S = callOf ([(36, v36), (37, v37), (29, v29 ([(38, v38)])), (38, v38)]) f args S := rfl
theorem nw15 (f : Nat) : (E15).news f = newsOf [(36, 1), (29, 6)] f := rfl
theorem md15 (f : Nat) : (E15).mode f = modeOf [(29, 2)] f := rfl
theorem rw15 : (E15).rows = false := rfl
theorem kp15 (f : Nat) : (E15).keep f = keepOf [(3, [4, 5]), (2, [2, 4, 6]), (1, [2, 4, 6]), (0, [1, 2, 4])] f := rfl
theorem lp15 (f : Nat) : (E15).loops f = loopsOf [] f := rfl
theorem bx15 (f : Nat) : (E15).boxes f = boxesOf [] f := rfl
noncomputable def v15 : Spec := fnSpec (E15) 0 Tryz.f15
theorem vv15 (args : List V) (S : St) : v15 args S = fnSpec (E15) 0 Tryz.f15 args S := rfl
def u15 := And.intro @vv15 (And.intro @ty15 (And.intro @call15 (And.intro @nw15 (And.intro @md15 (And.intro @rw15 (And.intro @kp15 (And.intro @lp15 (@bx15))))))))
theorem ok15 : SoundAt Tryz.prog 15 (v15) := soundAt_of mixed tyOk rfl (by intro p hp; simp only [List.cons_append, List.nil_append, List.mem_cons, List.mem_append, List.not_mem_nil, or_false] at hp; rcases hp with rfl | rfl | rfl | rfl <;> first | exact ok36 | exact ok37 | exact ok29 _ (fun p hp => by simp only [List.cons_append, List.nil_append, List.mem_cons, List.mem_append, List.not_mem_nil, or_false] at hp; rcases hp with rfl <;> first | exact ok38) | exact ok38) (f := 15) (fn := Tryz.f15) (by kernel_rfl) (by kernel_rfl) (by kernel_rfl) _

/-! 5: stevedore/stevedorelaw10.VolumeBack (2 parameters) -/
noncomputable def E5 : Env := { ty := ty, call := callOf ([(7, v7), (8, v8), (12, v12), (14, v14), (15, v15)]), news := newsOf [(12, 6), (15, 6)], mode := modeOf [(12, 2), (14, 1), (15, 2)], rows := false, keep := keepOf [(9, [4]), (8, [2, 7, 8]), (7, [4]), (6, [1, 2, 5, 21]), (5, [1, 2, 5, 6]), (4, [4]), (3, [1, 2, 13]), (2, [4]), (1, [1, 2, 10]), (0, [1, 2])], loops := loopsOf [], boxes := boxesOf [] }
theorem ty5 : (E5).ty = ty := rfl
theorem call5 (f : Nat) (args : List V) (S : St) : (E5).call f args S = callOf ([(7, v7), (8, v8), (12, v12), (14, v14), (15, v15)]) f args S := rfl
theorem nw5 (f : Nat) : (E5).news f = newsOf [(12, 6), (15, 6)] f := rfl
theorem md5 (f : Nat) : (E5).mode f = modeOf [(12, 2), (14, 1), (15, 2)] f := rfl
theorem rw5 : (E5).rows = false := rfl
theorem kp5 (f : Nat) : (E5).keep f = keepOf [(9, [4]), (8, [2, 7, 8]), (7, [4]), (6, [1, 2, 5, 21]), (5, [1, 2, 5, 6]), (4, [4]), (3, [1, 2, 13]), (2, [4]), (1, [1, 2, 10]), (0, [1, 2])] f := rfl
theorem lp5 (f : Nat) : (E5).loops f = loopsOf [] f := rfl
theorem bx5 (f : Nat) : (E5).boxes f = boxesOf [] f := rfl
noncomputable def v5 : Spec := fnSpec (E5) 1 Tryz.f5
theorem vv5 (args : List V) (S : St) : v5 args S = fnSpec (E5) 1 Tryz.f5 args S := rfl
def u5 := And.intro @vv5 (And.intro @ty5 (And.intro @call5 (And.intro @nw5 (And.intro @md5 (And.intro @rw5 (And.intro @kp5 (And.intro @lp5 (@bx5))))))))
theorem ok5 : SoundAt Tryz.prog 5 (v5) := soundAt_of mixed tyOk rfl (by intro p hp; simp only [List.cons_append, List.nil_append, List.mem_cons, List.mem_append, List.not_mem_nil, or_false] at hp; rcases hp with rfl | rfl | rfl | rfl | rfl <;> first | exact ok7 | exact ok8 | exact ok12 | exact ok14 | exact ok15) (f := 5) (fn := Tryz.f5) (by kernel_rfl) (by kernel_rfl) (by kernel_rfl) _

/-! 16: stevedore/volume.Check (1 parameters) -/
noncomputable def E16 : Env := { ty := ty, call := callOf ([(39, v39 ([(40, v40), (42, v42)])), (41, v41 ([(40, v40), (42, v42)])), (40, v40), (42, v42)]), news := newsOf [], mode := modeOf [(39, 1), (41, 1)], rows := false, keep := keepOf [(16, [2]), (15, [1, 3, 44, 45, 46]), (14, [1, 3, 44, 45, 46]), (13, [1, 3, 44, 45, 46, 72]), (12, [1, 3, 8, 9, 44, 45, 46]), (11, [1, 3, 8, 44, 45, 46]), (10, [1, 3, 44, 45, 46, 47]), (9, [1, 3, 44, 45, 46]), (8, [1, 3, 11, 12, 13]), (7, [1, 3, 11, 12, 13]), (6, [1, 3, 11, 12, 13, 39]), (5, [1, 3, 5, 6, 11, 12, 13]), (4, [1, 3, 5, 11, 12, 13]), (3, [1, 3, 11, 12, 13, 14]), (2, [1, 3, 11, 12, 13]), (1, [1, 3]), (0, [1])], loops := loopsOf [(10, ([1, 3, 44, 45, 46], [])), (3, ([1, 3, 11, 12, 13], []))], boxes := boxesOf [] }
theorem ty16 : (E16).ty = ty := rfl
theorem call16 (f : Nat) (args : List V) (S : St) : (E16).call f args S = callOf ([(39, v39 ([(40, v40), (42, v42)])), (41, v41 ([(40, v40), (42, v42)])), (40, v40), (42, v42)]) f args S := rfl
theorem nw16 (f : Nat) : (E16).news f = newsOf [] f := rfl
theorem md16 (f : Nat) : (E16).mode f = modeOf [(39, 1), (41, 1)] f := rfl
theorem rw16 : (E16).rows = false := rfl
theorem kp16 (f : Nat) : (E16).keep f = keepOf [(16, [2]), (15, [1, 3, 44, 45, 46]), (14, [1, 3, 44, 45, 46]), (13, [1, 3, 44, 45, 46, 72]), (12, [1, 3, 8, 9, 44, 45, 46]), (11, [1, 3, 8, 44, 45, 46]), (10, [1, 3, 44, 45, 46, 47]), (9, [1, 3, 44, 45, 46]), (8, [1, 3, 11, 12, 13]), (7, [1, 3, 11, 12, 13]), (6, [1, 3, 11, 12, 13, 39]), (5, [1, 3, 5, 6, 11, 12, 13]), (4, [1, 3, 5, 11, 12, 13]), (3, [1, 3, 11, 12, 13, 14]), (2, [1, 3, 11, 12, 13]), (1, [1, 3]), (0, [1])] f := rfl
theorem lp16 (f : Nat) : (E16).loops f = loopsOf [(10, ([1, 3, 44, 45, 46], [])), (3, ([1, 3, 11, 12, 13], []))] f := rfl
theorem bx16 (f : Nat) : (E16).boxes f = boxesOf [] f := rfl
noncomputable def v16 : Spec := fnSpec (E16) 1 Tryz.f16
theorem vv16 (args : List V) (S : St) : v16 args S = fnSpec (E16) 1 Tryz.f16 args S := rfl
def u16 := And.intro @vv16 (And.intro @ty16 (And.intro @call16 (And.intro @nw16 (And.intro @md16 (And.intro @rw16 (And.intro @kp16 (And.intro @lp16 (@bx16))))))))
theorem ok16 : SoundAt Tryz.prog 16 (v16) := soundAt_of mixed tyOk rfl (by intro p hp; simp only [List.cons_append, List.nil_append, List.mem_cons, List.mem_append, List.not_mem_nil, or_false] at hp; rcases hp with rfl | rfl | rfl | rfl <;> first | exact ok39 _ (fun p hp => by simp only [List.cons_append, List.nil_append, List.mem_cons, List.mem_append, List.not_mem_nil, or_false] at hp; rcases hp with rfl | rfl <;> first | exact ok40 | exact ok42) | exact ok41 _ (fun p hp => by simp only [List.cons_append, List.nil_append, List.mem_cons, List.mem_append, List.not_mem_nil, or_false] at hp; rcases hp with rfl | rfl <;> first | exact ok40 | exact ok42) | exact ok40 | exact ok42) (f := 16) (fn := Tryz.f16) (by kernel_rfl) (by kernel_rfl) (by kernel_rfl) _

/-! 17: stevedore/volume.Free (1 parameters) -/
noncomputable def E17 : Env := { ty := ty, call := callOf ([]), news := newsOf [], mode := modeOf [], rows := false, keep := keepOf [(8, [2]), (7, [3, 7, 8, 9]), (6, [3, 7, 8, 9]), (5, [3, 5, 7, 8, 9, 15]), (4, [3, 5, 7, 8, 9]), (3, [3, 7, 8, 9, 10]), (2, [3, 7, 8, 9]), (1, [1, 3]), (0, [1])], loops := loopsOf [(3, ([3, 7, 8, 9], [(3, (9, 1))]))], boxes := boxesOf [] }
theorem ty17 : (E17).ty = ty := rfl
theorem call17 (f : Nat) (args : List V) (S : St) : (E17).call f args S = callOf ([]) f args S := rfl
theorem nw17 (f : Nat) : (E17).news f = newsOf [] f := rfl
theorem md17 (f : Nat) : (E17).mode f = modeOf [] f := rfl
theorem rw17 : (E17).rows = false := rfl
theorem kp17 (f : Nat) : (E17).keep f = keepOf [(8, [2]), (7, [3, 7, 8, 9]), (6, [3, 7, 8, 9]), (5, [3, 5, 7, 8, 9, 15]), (4, [3, 5, 7, 8, 9]), (3, [3, 7, 8, 9, 10]), (2, [3, 7, 8, 9]), (1, [1, 3]), (0, [1])] f := rfl
theorem lp17 (f : Nat) : (E17).loops f = loopsOf [(3, ([3, 7, 8, 9], [(3, (9, 1))]))] f := rfl
theorem bx17 (f : Nat) : (E17).boxes f = boxesOf [] f := rfl
noncomputable def v17 : Spec := fnSpec (E17) 1 Tryz.f17
theorem vv17 (args : List V) (S : St) : v17 args S = fnSpec (E17) 1 Tryz.f17 args S := rfl
def u17 := And.intro @vv17 (And.intro @ty17 (And.intro @call17 (And.intro @nw17 (And.intro @md17 (And.intro @rw17 (And.intro @kp17 (And.intro @lp17 (@bx17))))))))
theorem ok17 : SoundAt Tryz.prog 17 (v17) := soundAt_of mixed tyOk rfl (by intro p hp; simp at hp) (f := 17) (fn := Tryz.f17) (by kernel_rfl) (by kernel_rfl) (by kernel_rfl) _

/-! 6: stevedore/stevedorelaw10.VolumeOnce (2 parameters) -/
noncomputable def E6 : Env := { ty := ty, call := callOf ([(7, v7), (12, v12), (8, v8), (16, v16), (17, v17)]), news := newsOf [(12, 6)], mode := modeOf [(12, 2), (16, 1), (17, 3)], rows := false, keep := keepOf [(14, [4]), (8, [1, 2, 5, 7]), (11, [1, 2, 5, 7, 8]), (13, [4]), (12, [1, 2, 5, 7, 8, 58]), (10, [1, 2, 5, 7, 8, 32]), (9, [1, 2, 5, 7, 8]), (7, [1, 2, 5, 7, 27]), (6, [1, 2, 5, 7]), (5, [4]), (4, [1, 2, 5, 23]), (3, [1, 2, 5, 6]), (2, [4]), (1, [1, 2, 10]), (0, [1, 2])], loops := loopsOf [(10, ([1, 2, 5, 7, 8], [])), (7, ([1, 2, 5, 7], []))], boxes := boxesOf [] }
theorem ty6 : (E6).ty = ty := rfl
theorem call6 (f : Nat) (args : List V) (S : St) : (E6).call f args S = callOf ([(7, v7), (12, v12), (8, v8), (16, v16), (17, v17)]) f args S := rfl
theorem nw6 (f : Nat) : (E6).news f = newsOf [(12, 6)] f := rfl
theorem md6 (f : Nat) : (E6).mode f = modeOf [(12, 2), (16, 1), (17, 3)] f := rfl
theorem rw6 : (E6).rows = false := rfl
theorem kp6 (f : Nat) : (E6).keep f = keepOf [(14, [4]), (8, [1, 2, 5, 7]), (11, [1, 2, 5, 7, 8]), (13, [4]), (12, [1, 2, 5, 7, 8, 58]), (10, [1, 2, 5, 7, 8, 32]), (9, [1, 2, 5, 7, 8]), (7, [1, 2, 5, 7, 27]), (6, [1, 2, 5, 7]), (5, [4]), (4, [1, 2, 5, 23]), (3, [1, 2, 5, 6]), (2, [4]), (1, [1, 2, 10]), (0, [1, 2])] f := rfl
theorem lp6 (f : Nat) : (E6).loops f = loopsOf [(10, ([1, 2, 5, 7, 8], [])), (7, ([1, 2, 5, 7], []))] f := rfl
theorem bx6 (f : Nat) : (E6).boxes f = boxesOf [] f := rfl
noncomputable def v6 : Spec := fnSpec (E6) 1 Tryz.f6
theorem vv6 (args : List V) (S : St) : v6 args S = fnSpec (E6) 1 Tryz.f6 args S := rfl
def u6 := And.intro @vv6 (And.intro @ty6 (And.intro @call6 (And.intro @nw6 (And.intro @md6 (And.intro @rw6 (And.intro @kp6 (And.intro @lp6 (@bx6))))))))
theorem ok6 : SoundAt Tryz.prog 6 (v6) := soundAt_of mixed tyOk rfl (by intro p hp; simp only [List.cons_append, List.nil_append, List.mem_cons, List.mem_append, List.not_mem_nil, or_false] at hp; rcases hp with rfl | rfl | rfl | rfl | rfl <;> first | exact ok7 | exact ok12 | exact ok8 | exact ok16 | exact ok17) (f := 6) (fn := Tryz.f6) (by kernel_rfl) (by kernel_rfl) (by kernel_rfl) _
end Go.Wm.Try1
