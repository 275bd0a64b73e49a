/-
  A part of the proof: an abstract run of the program, shown to be what the model does, and what it comes to.
-/
import Derived.Test.YthpomdmjckdknaaWmSm
import Derived.Test.YthpomdmjckdknaaProg
import Derived.KernelRfl
set_option linter.unusedSectionVars false
set_option linter.unnecessarySimpa false
set_option maxRecDepth 100000
set_option linter.unusedVariables false
set_option linter.unusedSimpArgs false
set_option linter.defProp false
namespace Go.Wm.Try1
open Go Go.Wm Go.Proofs
def tab : List (Nat × TI) := [
  (3, ⟨.int .i64, 1, 8, [.d (.int .i64 0)], false⟩),
  (4, ⟨.bool, 1, 1, [.d (.bool false)], false⟩),
  (9, ⟨.str, 1, 16, [.d (.str [])], false⟩),
  (22, ⟨.sl 99 2 32, 1, 24, [.nil], false⟩),
  (23, ⟨.sl 81 3 40, 1, 24, [.nil], false⟩),
  (25, ⟨.st [(0, 3, 1), (1, 3, 1), (2, 3, 1)], 3, 24, [.d (.int .i64 0), .d (.int .i64 0), .d (.int .i64 0)], true⟩),
  (27, ⟨.st [(0, 9, 1), (1, 22, 1), (2, 23, 1), (3, 4, 1), (4, 25, 3), (7, 3, 1), (8, 3, 1)], 9, 112, [.d (.str []), .nil, .nil, .d (.bool false), .d (.int .i64 0), .d (.int .i64 0), .d (.int .i64 0), .d (.int .i64 0), .d (.int .i64 0)], false⟩),
  (28, ⟨.sl 37 16 296, 1, 24, [.nil], false⟩),
  (29, ⟨.sl 75 4 48, 1, 24, [.nil], false⟩),
  (30, ⟨.sl 101 3 48, 1, 24, [.nil], false⟩),
  (31, ⟨.sl 77 2 32, 1, 24, [.nil], false⟩),
  (32, ⟨.sl 3 1 8, 1, 24, [.nil], false⟩),
  (33, ⟨.sl 103 2 40, 1, 24, [.nil], false⟩),
  (34, ⟨.sl 79 4 56, 1, 24, [.nil], false⟩),
  (35, ⟨.sl 9 1 16, 1, 24, [.nil], false⟩),
  (37, ⟨.st [(0, 9, 1), (1, 3, 1), (2, 22, 1), (3, 25, 3), (6, 29, 1), (7, 30, 1), (8, 31, 1), (9, 32, 1), (10, 33, 1), (11, 33, 1), (12, 34, 1), (13, 35, 1), (14, 9, 1), (15, 9, 1)], 16, 296, [.d (.str []), .d (.int .i64 0), .nil, .d (.int .i64 0), .d (.int .i64 0), .d (.int .i64 0), .nil, .nil, .nil, .nil, .nil, .nil, .nil, .nil, .d (.str []), .d (.str [])], false⟩),
  (41, ⟨.st [(0, 27, 9), (9, 35, 1), (10, 25, 3), (13, 32, 1), (14, 35, 1)], 15, 208, [.d (.str []), .nil, .nil, .d (.bool false), .d (.int .i64 0), .d (.int .i64 0), .d (.int .i64 0), .d (.int .i64 0), .d (.int .i64 0), .nil, .d (.int .i64 0), .d (.int .i64 0), .d (.int .i64 0), .nil, .nil], false⟩),
  (55, ⟨.int .i64, 1, 8, [.d (.int .i64 0)], false⟩),
  (70, ⟨.func, 1, 8, [.d .nilf], false⟩),
  (75, ⟨.st [(0, 9, 1), (1, 9, 1), (2, 4, 1), (3, 3, 1)], 4, 48, [.d (.str []), .d (.str []), .d (.bool false), .d (.int .i64 0)], true⟩),
  (77, ⟨.st [(0, 30, 1), (1, 3, 1)], 2, 32, [.nil, .d (.int .i64 0)], false⟩),
  (79, ⟨.st [(0, 9, 1), (1, 3, 1), (2, 3, 1), (3, 30, 1)], 4, 56, [.d (.str []), .d (.int .i64 0), .d (.int .i64 0), .nil], false⟩),
  (81, ⟨.st [(0, 9, 1), (1, 9, 1), (2, 3, 1)], 3, 40, [.d (.str []), .d (.str []), .d (.int .i64 0)], true⟩),
  (83, ⟨.func, 1, 8, [.d .nilf], false⟩),
  (86, ⟨.arr 3 3 1, 3, 24, [.d (.int .i64 0), .d (.int .i64 0), .d (.int .i64 0)], false⟩),
  (87, ⟨.int .u64, 1, 8, [.d (.int .u64 0)], false⟩),
  (92, ⟨.func, 1, 8, [.d .nilf], false⟩),
  (99, ⟨.st [(0, 9, 1), (1, 9, 1)], 2, 32, [.d (.str []), .d (.str [])], true⟩),
  (101, ⟨.st [(0, 9, 1), (1, 3, 1), (2, 35, 1)], 3, 48, [.d (.str []), .d (.int .i64 0), .nil], false⟩),
  (103, ⟨.st [(0, 30, 1), (1, 9, 1)], 2, 40, [.nil, .d (.str [])], false⟩),
  (111, ⟨.int .u64, 1, 8, [.d (.int .u64 0)], false⟩)]
def ty : Nat → Option TI := tabOf tab
theorem tyOk : TyOk Try.prog ty := tyOk_of_tab _ _ (by kernel_rfl)
theorem mixed : Try.prog.follows .mixedOrders = true := by kernel_rfl
theorem ty_3 : ty 3 = some ⟨.int .i64, 1, 8, [.d (.int .i64 0)], false⟩ := by kernel_rfl
theorem ty_4 : ty 4 = some ⟨.bool, 1, 1, [.d (.bool false)], false⟩ := by kernel_rfl
theorem ty_9 : ty 9 = some ⟨.str, 1, 16, [.d (.str [])], false⟩ := by kernel_rfl
theorem ty_22 : ty 22 = some ⟨.sl 99 2 32, 1, 24, [.nil], false⟩ := by kernel_rfl
theorem ty_23 : ty 23 = some ⟨.sl 81 3 40, 1, 24, [.nil], false⟩ := by kernel_rfl
theorem ty_25 : ty 25 = some ⟨.st [(0, 3, 1), (1, 3, 1), (2, 3, 1)], 3, 24, [.d (.int .i64 0), .d (.int .i64 0), .d (.int .i64 0)], true⟩ := by kernel_rfl
theorem ty_27 : ty 27 = some ⟨.st [(0, 9, 1), (1, 22, 1), (2, 23, 1), (3, 4, 1), (4, 25, 3), (7, 3, 1), (8, 3, 1)], 9, 112, [.d (.str []), .nil, .nil, .d (.bool false), .d (.int .i64 0), .d (.int .i64 0), .d (.int .i64 0), .d (.int .i64 0), .d (.int .i64 0)], false⟩ := by kernel_rfl
theorem ty_28 : ty 28 = some ⟨.sl 37 16 296, 1, 24, [.nil], false⟩ := by kernel_rfl
theorem ty_29 : ty 29 = some ⟨.sl 75 4 48, 1, 24, [.nil], false⟩ := by kernel_rfl
theorem ty_30 : ty 30 = some ⟨.sl 101 3 48, 1, 24, [.nil], false⟩ := by kernel_rfl
theorem ty_31 : ty 31 = some ⟨.sl 77 2 32, 1, 24, [.nil], false⟩ := by kernel_rfl
theorem ty_32 : ty 32 = some ⟨.sl 3 1 8, 1, 24, [.nil], false⟩ := by kernel_rfl
theorem ty_33 : ty 33 = some ⟨.sl 103 2 40, 1, 24, [.nil], false⟩ := by kernel_rfl
theorem ty_34 : ty 34 = some ⟨.sl 79 4 56, 1, 24, [.nil], false⟩ := by kernel_rfl
theorem ty_35 : ty 35 = some ⟨.sl 9 1 16, 1, 24, [.nil], false⟩ := by kernel_rfl
theorem ty_37 : ty 37 = some ⟨.st [(0, 9, 1), (1, 3, 1), (2, 22, 1), (3, 25, 3), (6, 29, 1), (7, 30, 1), (8, 31, 1), (9, 32, 1), (10, 33, 1), (11, 33, 1), (12, 34, 1), (13, 35, 1), (14, 9, 1), (15, 9, 1)], 16, 296, [.d (.str []), .d (.int .i64 0), .nil, .d (.int .i64 0), .d (.int .i64 0), .d (.int .i64 0), .nil, .nil, .nil, .nil, .nil, .nil, .nil, .nil, .d (.str []), .d (.str [])], false⟩ := by kernel_rfl
theorem ty_41 : ty 41 = some ⟨.st [(0, 27, 9), (9, 35, 1), (10, 25, 3), (13, 32, 1), (14, 35, 1)], 15, 208, [.d (.str []), .nil, .nil, .d (.bool false), .d (.int .i64 0), .d (.int .i64 0), .d (.int .i64 0), .d (.int .i64 0), .d (.int .i64 0), .nil, .d (.int .i64 0), .d (.int .i64 0), .d (.int .i64 0), .nil, .nil], false⟩ := by kernel_rfl
theorem ty_55 : ty 55 = some ⟨.int .i64, 1, 8, [.d (.int .i64 0)], false⟩ := by kernel_rfl
theorem ty_70 : ty 70 = some ⟨.func, 1, 8, [.d .nilf], false⟩ := by kernel_rfl
theorem ty_75 : ty 75 = some ⟨.st [(0, 9, 1), (1, 9, 1), (2, 4, 1), (3, 3, 1)], 4, 48, [.d (.str []), .d (.str []), .d (.bool false), .d (.int .i64 0)], true⟩ := by kernel_rfl
theorem ty_77 : ty 77 = some ⟨.st [(0, 30, 1), (1, 3, 1)], 2, 32, [.nil, .d (.int .i64 0)], false⟩ := by kernel_rfl
theorem ty_79 : ty 79 = some ⟨.st [(0, 9, 1), (1, 3, 1), (2, 3, 1), (3, 30, 1)], 4, 56, [.d (.str []), .d (.int .i64 0), .d (.int .i64 0), .nil], false⟩ := by kernel_rfl
theorem ty_81 : ty 81 = some ⟨.st [(0, 9, 1), (1, 9, 1), (2, 3, 1)], 3, 40, [.d (.str []), .d (.str []), .d (.int .i64 0)], true⟩ := by kernel_rfl
theorem ty_83 : ty 83 = some ⟨.func, 1, 8, [.d .nilf], false⟩ := by kernel_rfl
theorem ty_86 : ty 86 = some ⟨.arr 3 3 1, 3, 24, [.d (.int .i64 0), .d (.int .i64 0), .d (.int .i64 0)], false⟩ := by kernel_rfl
theorem ty_87 : ty 87 = some ⟨.int .u64, 1, 8, [.d (.int .u64 0)], false⟩ := by kernel_rfl
theorem ty_92 : ty 92 = some ⟨.func, 1, 8, [.d .nilf], false⟩ := by kernel_rfl
theorem ty_99 : ty 99 = some ⟨.st [(0, 9, 1), (1, 9, 1)], 2, 32, [.d (.str []), .d (.str [])], true⟩ := by kernel_rfl
theorem ty_101 : ty 101 = some ⟨.st [(0, 9, 1), (1, 3, 1), (2, 35, 1)], 3, 48, [.d (.str []), .d (.int .i64 0), .nil], false⟩ := by kernel_rfl
theorem ty_103 : ty 103 = some ⟨.st [(0, 30, 1), (1, 9, 1)], 2, 40, [.nil, .d (.str [])], false⟩ := by kernel_rfl
theorem ty_111 : ty 111 = some ⟨.int .u64, 1, 8, [.d (.int .u64 0)], false⟩ := by kernel_rfl
def tys := And.intro @ty_3 (And.intro @ty_4 (And.intro @ty_9 (And.intro @ty_22 (And.intro @ty_23 (And.intro @ty_25 (And.intro @ty_27 (And.intro @ty_28 (And.intro @ty_29 (And.intro @ty_30 (And.intro @ty_31 (And.intro @ty_32 (And.intro @ty_33 (And.intro @ty_34 (And.intro @ty_35 (And.intro @ty_37 (And.intro @ty_41 (And.intro @ty_55 (And.intro @ty_70 (And.intro @ty_75 (And.intro @ty_77 (And.intro @ty_79 (And.intro @ty_81 (And.intro @ty_83 (And.intro @ty_86 (And.intro @ty_87 (And.intro @ty_92 (And.intro @ty_99 (And.intro @ty_101 (And.intro @ty_103 (@ty_111))))))))))))))))))))))))))))))

/-! 28: stevedore/stevedorebase.Labels (1 parameters) -/
noncomputable def E28 : Env := { ty := ty, call := callOf ([]), news := newsOf [], mode := modeOf [], rows := false, keep := keepOf [(1, [2]), (0, [0])], loops := loopsOf [], boxes := boxesOf [] }
theorem ty28 : (E28).ty = ty := rfl
theorem call28 (f : Nat) (args : List V) (S : St) : (E28).call f args S = callOf ([]) f args S := rfl
theorem nw28 (f : Nat) : (E28).news f = newsOf [] f := rfl
theorem md28 (f : Nat) : (E28).mode f = modeOf [] f := rfl
theorem rw28 : (E28).rows = false := rfl
theorem kp28 (f : Nat) : (E28).keep f = keepOf [(1, [2]), (0, [0])] f := rfl
theorem lp28 (f : Nat) : (E28).loops f = loopsOf [] f := rfl
theorem bx28 (f : Nat) : (E28).boxes f = boxesOf [] f := rfl
noncomputable def v28 : Spec := fnSpec (E28) 1 Try.f28
theorem vv28 (args : List V) (S : St) : v28 args S = fnSpec (E28) 1 Try.f28 args S := rfl
def u28 := And.intro @vv28 (And.intro @ty28 (And.intro @call28 (And.intro @nw28 (And.intro @md28 (And.intro @rw28 (And.intro @kp28 (And.intro @lp28 (@bx28))))))))
theorem ok28 : SoundAt Try.prog 28 (v28) := soundAt_of mixed tyOk rfl (by intro p hp; simp at hp) (f := 28) (fn := Try.f28) (by kernel_rfl) (by kernel_rfl) (by kernel_rfl) _

/-! 51: stevedore/stevedorebase.Texts (1 parameters) -/
noncomputable def E51 : Env := { ty := ty, call := callOf ([]), news := newsOf [], mode := modeOf [], rows := false, keep := keepOf [(1, [2]), (0, [0])], loops := loopsOf [], boxes := boxesOf [] }
theorem ty51 : (E51).ty = ty := rfl
theorem call51 (f : Nat) (args : List V) (S : St) : (E51).call f args S = callOf ([]) f args S := rfl
theorem nw51 (f : Nat) : (E51).news f = newsOf [] f := rfl
theorem md51 (f : Nat) : (E51).mode f = modeOf [] f := rfl
theorem rw51 : (E51).rows = false := rfl
theorem kp51 (f : Nat) : (E51).keep f = keepOf [(1, [2]), (0, [0])] f := rfl
theorem lp51 (f : Nat) : (E51).loops f = loopsOf [] f := rfl
theorem bx51 (f : Nat) : (E51).boxes f = boxesOf [] f := rfl
noncomputable def v51 : Spec := fnSpec (E51) 1 Try.f51
theorem vv51 (args : List V) (S : St) : v51 args S = fnSpec (E51) 1 Try.f51 args S := rfl
def u51 := And.intro @vv51 (And.intro @ty51 (And.intro @call51 (And.intro @nw51 (And.intro @md51 (And.intro @rw51 (And.intro @kp51 (And.intro @lp51 (@bx51))))))))
theorem ok51 : SoundAt Try.prog 51 (v51) := soundAt_of mixed tyOk rfl (by intro p hp; simp at hp) (f := 51) (fn := Try.f51) (by kernel_rfl) (by kernel_rfl) (by kernel_rfl) _
noncomputable def v51t : Spec := fnSpec (E51) 0 Try.f51
theorem vv51t (args : List V) (S : St) : v51t args S = fnSpec (E51) 0 Try.f51 args S := rfl
def u51t := And.intro @vv51t (And.intro @ty51 (And.intro @call51 (And.intro @nw51 (And.intro @md51 (And.intro @rw51 (And.intro @kp51 (And.intro @lp51 (@bx51))))))))
theorem ok51t : SoundAt Try.prog 51 v51t := soundAt_of mixed tyOk rfl (by intro p hp; simp at hp) (f := 51) (fn := Try.f51) (by kernel_rfl) (by kernel_rfl) (by kernel_rfl) _

/-! 48: stevedore/stevedorebase.Reqs (1 parameters) -/
noncomputable def E48 : Env := { ty := ty, call := callOf ([(51, v51)]), news := newsOf [], mode := modeOf [], rows := false, keep := keepOf [(8, [2]), (4, [0, 3, 4]), (7, [0, 3, 4]), (6, [0, 3, 4, 5]), (5, [0, 3, 4, 5]), (3, [0, 3, 4, 10]), (2, [0, 3, 4]), (1, [0, 3]), (0, [0])], loops := loopsOf [(3, ([0, 3, 4], [(3, (101, 3))]))], boxes := boxesOf [] }
theorem ty48 : (E48).ty = ty := rfl
theorem call48 (f : Nat) (args : List V) (S : St) : (E48).call f args S = callOf ([(51, v51)]) f args S := rfl
theorem nw48 (f : Nat) : (E48).news f = newsOf [] f := rfl
theorem md48 (f : Nat) : (E48).mode f = modeOf [] f := rfl
theorem rw48 : (E48).rows = false := rfl
theorem kp48 (f : Nat) : (E48).keep f = keepOf [(8, [2]), (4, [0, 3, 4]), (7, [0, 3, 4]), (6, [0, 3, 4, 5]), (5, [0, 3, 4, 5]), (3, [0, 3, 4, 10]), (2, [0, 3, 4]), (1, [0, 3]), (0, [0])] f := rfl
theorem lp48 (f : Nat) : (E48).loops f = loopsOf [(3, ([0, 3, 4], [(3, (101, 3))]))] f := rfl
theorem bx48 (f : Nat) : (E48).boxes f = boxesOf [] f := rfl
noncomputable def v48 : Spec := fnSpec (E48) 1 Try.f48
theorem vv48 (args : List V) (S : St) : v48 args S = fnSpec (E48) 1 Try.f48 args S := rfl
def u48 := And.intro @vv48 (And.intro @ty48 (And.intro @call48 (And.intro @nw48 (And.intro @md48 (And.intro @rw48 (And.intro @kp48 (And.intro @lp48 (@bx48))))))))
theorem ok48 : SoundAt Try.prog 48 (v48) := soundAt_of mixed tyOk rfl (by intro p hp; simp only [List.cons_append, List.nil_append, List.mem_cons, List.mem_append, List.not_mem_nil, or_false] at hp; rcases hp with rfl <;> first | exact ok51) (f := 48) (fn := Try.f48) (by kernel_rfl) (by kernel_rfl) (by kernel_rfl) _

/-! 49: stevedore/stevedorebase.Ints (1 parameters) -/
noncomputable def E49 : Env := { ty := ty, call := callOf ([]), news := newsOf [], mode := modeOf [], rows := false, keep := keepOf [(1, [2]), (0, [0])], loops := loopsOf [], boxes := boxesOf [] }
theorem ty49 : (E49).ty = ty := rfl
theorem call49 (f : Nat) (args : List V) (S : St) : (E49).call f args S = callOf ([]) f args S := rfl
theorem nw49 (f : Nat) : (E49).news f = newsOf [] f := rfl
theorem md49 (f : Nat) : (E49).mode f = modeOf [] f := rfl
theorem rw49 : (E49).rows = false := rfl
theorem kp49 (f : Nat) : (E49).keep f = keepOf [(1, [2]), (0, [0])] f := rfl
theorem lp49 (f : Nat) : (E49).loops f = loopsOf [] f := rfl
theorem bx49 (f : Nat) : (E49).boxes f = boxesOf [] f := rfl
noncomputable def v49 : Spec := fnSpec (E49) 1 Try.f49
theorem vv49 (args : List V) (S : St) : v49 args S = fnSpec (E49) 1 Try.f49 args S := rfl
def u49 := And.intro @vv49 (And.intro @ty49 (And.intro @call49 (And.intro @nw49 (And.intro @md49 (And.intro @rw49 (And.intro @kp49 (And.intro @lp49 (@bx49))))))))
theorem ok49 : SoundAt Try.prog 49 (v49) := soundAt_of mixed tyOk rfl (by intro p hp; simp at hp) (f := 49) (fn := Try.f49) (by kernel_rfl) (by kernel_rfl) (by kernel_rfl) _
noncomputable def v49t : Spec := fnSpec (E49) 0 Try.f49
theorem vv49t (args : List V) (S : St) : v49t args S = fnSpec (E49) 0 Try.f49 args S := rfl
def u49t := And.intro @vv49t (And.intro @ty49 (And.intro @call49 (And.intro @nw49 (And.intro @md49 (And.intro @rw49 (And.intro @kp49 (And.intro @lp49 (@bx49))))))))
theorem ok49t : SoundAt Try.prog 49 v49t := soundAt_of mixed tyOk rfl (by intro p hp; simp at hp) (f := 49) (fn := Try.f49) (by kernel_rfl) (by kernel_rfl) (by kernel_rfl) _

/-! 50: stevedore/stevedorebase.terms (1 parameters) -/
noncomputable def E50 : Env := { ty := ty, call := callOf ([(48, v48)]), news := newsOf [], mode := modeOf [], rows := false, keep := keepOf [(6, [2]), (4, [0, 3, 4]), (5, [0, 3, 4]), (3, [0, 3, 4, 9]), (2, [0, 3, 4]), (1, [0, 3]), (0, [0])], loops := loopsOf [(3, ([0, 3, 4], [(3, (103, 2))]))], boxes := boxesOf [] }
theorem ty50 : (E50).ty = ty := rfl
theorem call50 (f : Nat) (args : List V) (S : St) : (E50).call f args S = callOf ([(48, v48)]) f args S := rfl
theorem nw50 (f : Nat) : (E50).news f = newsOf [] f := rfl
theorem md50 (f : Nat) : (E50).mode f = modeOf [] f := rfl
theorem rw50 : (E50).rows = false := rfl
theorem kp50 (f : Nat) : (E50).keep f = keepOf [(6, [2]), (4, [0, 3, 4]), (5, [0, 3, 4]), (3, [0, 3, 4, 9]), (2, [0, 3, 4]), (1, [0, 3]), (0, [0])] f := rfl
theorem lp50 (f : Nat) : (E50).loops f = loopsOf [(3, ([0, 3, 4], [(3, (103, 2))]))] f := rfl
theorem bx50 (f : Nat) : (E50).boxes f = boxesOf [] f := rfl
noncomputable def v50 : Spec := fnSpec (E50) 1 Try.f50
theorem vv50 (args : List V) (S : St) : v50 args S = fnSpec (E50) 1 Try.f50 args S := rfl
def u50 := And.intro @vv50 (And.intro @ty50 (And.intro @call50 (And.intro @nw50 (And.intro @md50 (And.intro @rw50 (And.intro @kp50 (And.intro @lp50 (@bx50))))))))
theorem ok50 : SoundAt Try.prog 50 (v50) := soundAt_of mixed tyOk rfl (by intro p hp; simp only [List.cons_append, List.nil_append, List.mem_cons, List.mem_append, List.not_mem_nil, or_false] at hp; rcases hp with rfl <;> first | exact ok48) (f := 50) (fn := Try.f50) (by kernel_rfl) (by kernel_rfl) (by kernel_rfl) _

/-! 24: stevedore/stevedorebase.Pod (1 parameters) -/
noncomputable def E24 : Env := { ty := ty, call := callOf ([(28, v28), (48, v48), (49, v49), (50, v50), (51, v51)]), news := newsOf [], mode := modeOf [], rows := true, keep := keepOf [(20, [2]), (19, [2, 3]), (15, [1, 2, 3, 5]), (18, [1, 2, 3, 5]), (17, [1, 2, 3, 5, 6]), (16, [1, 2, 3, 5, 6]), (14, [1, 2, 3, 5, 67]), (13, [1, 2, 3, 5]), (12, [1, 2, 3]), (11, [1, 2, 3]), (10, [1, 2, 3]), (8, [1, 2, 3, 4]), (9, [1, 2, 3, 4]), (7, [1, 2, 3, 4, 27]), (6, [1, 2, 3, 4]), (5, [1, 2, 3]), (4, [1, 2, 3]), (3, [1, 2, 3]), (2, [1, 2, 3]), (1, [1, 2, 3]), (0, [1, 2])], loops := loopsOf [(14, ([1, 2, 3, 5], [])), (7, ([1, 2, 3, 4], []))], boxes := boxesOf [(14, [(1, (2, (99, 2))), (1, (6, (75, 4))), (1, (7, (101, 3))), (1, (8, (77, 2))), (1, (9, (3, 1))), (1, (10, (103, 2))), (1, (11, (103, 2))), (1, (12, (79, 4))), (1, (13, (9, 1))), (2, (2, (99, 2))), (2, (6, (75, 4))), (2, (7, (101, 3))), (2, (8, (77, 2))), (2, (9, (3, 1))), (2, (10, (103, 2))), (2, (11, (103, 2))), (2, (12, (79, 4))), (2, (13, (9, 1))), (3, (2, (99, 2))), (3, (6, (75, 4))), (3, (7, (101, 3))), (3, (8, (77, 2))), (3, (9, (3, 1))), (3, (10, (103, 2))), (3, (11, (103, 2))), (3, (12, (79, 4))), (3, (13, (9, 1)))]), (7, [(1, (2, (99, 2))), (1, (6, (75, 4))), (1, (7, (101, 3))), (1, (8, (77, 2))), (1, (9, (3, 1))), (1, (10, (103, 2))), (1, (11, (103, 2))), (1, (12, (79, 4))), (1, (13, (9, 1))), (2, (2, (99, 2))), (2, (6, (75, 4))), (2, (7, (101, 3))), (2, (8, (77, 2))), (2, (9, (3, 1))), (2, (10, (103, 2))), (2, (11, (103, 2))), (2, (12, (79, 4))), (2, (13, (9, 1))), (3, (2, (99, 2))), (3, (6, (75, 4))), (3, (7, (101, 3))), (3, (8, (77, 2))), (3, (9, (3, 1))), (3, (10, (103, 2))), (3, (11, (103, 2))), (3, (12, (79, 4))), (3, (13, (9, 1)))])] }
theorem ty24 : (E24).ty = ty := rfl
theorem call24 (f : Nat) (args : List V) (S : St) : (E24).call f args S = callOf ([(28, v28), (48, v48), (49, v49), (50, v50), (51, v51)]) f args S := rfl
theorem nw24 (f : Nat) : (E24).news f = newsOf [] f := rfl
theorem md24 (f : Nat) : (E24).mode f = modeOf [] f := rfl
theorem rw24 : (E24).rows = true := rfl
theorem kp24 (f : Nat) : (E24).keep f = keepOf [(20, [2]), (19, [2, 3]), (15, [1, 2, 3, 5]), (18, [1, 2, 3, 5]), (17, [1, 2, 3, 5, 6]), (16, [1, 2, 3, 5, 6]), (14, [1, 2, 3, 5, 67]), (13, [1, 2, 3, 5]), (12, [1, 2, 3]), (11, [1, 2, 3]), (10, [1, 2, 3]), (8, [1, 2, 3, 4]), (9, [1, 2, 3, 4]), (7, [1, 2, 3, 4, 27]), (6, [1, 2, 3, 4]), (5, [1, 2, 3]), (4, [1, 2, 3]), (3, [1, 2, 3]), (2, [1, 2, 3]), (1, [1, 2, 3]), (0, [1, 2])] f := rfl
theorem lp24 (f : Nat) : (E24).loops f = loopsOf [(14, ([1, 2, 3, 5], [])), (7, ([1, 2, 3, 4], []))] f := rfl
theorem bx24 (f : Nat) : (E24).boxes f = boxesOf [(14, [(1, (2, (99, 2))), (1, (6, (75, 4))), (1, (7, (101, 3))), (1, (8, (77, 2))), (1, (9, (3, 1))), (1, (10, (103, 2))), (1, (11, (103, 2))), (1, (12, (79, 4))), (1, (13, (9, 1))), (2, (2, (99, 2))), (2, (6, (75, 4))), (2, (7, (101, 3))), (2, (8, (77, 2))), (2, (9, (3, 1))), (2, (10, (103, 2))), (2, (11, (103, 2))), (2, (12, (79, 4))), (2, (13, (9, 1))), (3, (2, (99, 2))), (3, (6, (75, 4))), (3, (7, (101, 3))), (3, (8, (77, 2))), (3, (9, (3, 1))), (3, (10, (103, 2))), (3, (11, (103, 2))), (3, (12, (79, 4))), (3, (13, (9, 1)))]), (7, [(1, (2, (99, 2))), (1, (6, (75, 4))), (1, (7, (101, 3))), (1, (8, (77, 2))), (1, (9, (3, 1))), (1, (10, (103, 2))), (1, (11, (103, 2))), (1, (12, (79, 4))), (1, (13, (9, 1))), (2, (2, (99, 2))), (2, (6, (75, 4))), (2, (7, (101, 3))), (2, (8, (77, 2))), (2, (9, (3, 1))), (2, (10, (103, 2))), (2, (11, (103, 2))), (2, (12, (79, 4))), (2, (13, (9, 1))), (3, (2, (99, 2))), (3, (6, (75, 4))), (3, (7, (101, 3))), (3, (8, (77, 2))), (3, (9, (3, 1))), (3, (10, (103, 2))), (3, (11, (103, 2))), (3, (12, (79, 4))), (3, (13, (9, 1)))])] f := rfl
noncomputable def v24 : Spec := fnSpec (E24) 1 Try.f24
theorem vv24 (args : List V) (S : St) : v24 args S = fnSpec (E24) 1 Try.f24 args S := rfl
def u24 := And.intro @vv24 (And.intro @ty24 (And.intro @call24 (And.intro @nw24 (And.intro @md24 (And.intro @rw24 (And.intro @kp24 (And.intro @lp24 (@bx24))))))))
theorem ok24 : SoundAt Try.prog 24 (v24) := soundAt_of mixed tyOk rfl (by intro p hp; simp only [List.cons_append, List.nil_append, List.mem_cons, List.mem_append, List.not_mem_nil, or_false] at hp; rcases hp with rfl | rfl | rfl | rfl | rfl <;> first | exact ok28 | exact ok48 | exact ok49 | exact ok50 | exact ok51) (f := 24) (fn := Try.f24) (by kernel_rfl) (by kernel_rfl) (by kernel_rfl) _

/-! 7: stevedore/stevedorelaw06.pods (1 parameters) -/
noncomputable def E7 : Env := { ty := ty, call := callOf ([(24, v24)]), news := newsOf [], mode := modeOf [], rows := false, keep := keepOf [(6, [2]), (4, [0, 3, 4]), (5, [0, 3, 4]), (3, [0, 3, 4, 9]), (2, [0, 3, 4]), (1, [0, 3]), (0, [0])], loops := loopsOf [(3, ([0, 3, 4], [(3, (37, 16))]))], boxes := boxesOf [] }
theorem ty7 : (E7).ty = ty := rfl
theorem call7 (f : Nat) (args : List V) (S : St) : (E7).call f args S = callOf ([(24, v24)]) f args S := rfl
theorem nw7 (f : Nat) : (E7).news f = newsOf [] f := rfl
theorem md7 (f : Nat) : (E7).mode f = modeOf [] f := rfl
theorem rw7 : (E7).rows = false := rfl
theorem kp7 (f : Nat) : (E7).keep f = keepOf [(6, [2]), (4, [0, 3, 4]), (5, [0, 3, 4]), (3, [0, 3, 4, 9]), (2, [0, 3, 4]), (1, [0, 3]), (0, [0])] f := rfl
theorem lp7 (f : Nat) : (E7).loops f = loopsOf [(3, ([0, 3, 4], [(3, (37, 16))]))] f := rfl
theorem bx7 (f : Nat) : (E7).boxes f = boxesOf [] f := rfl
noncomputable def v7 : Spec := fnSpec (E7) 0 Try.f7
theorem vv7 (args : List V) (S : St) : v7 args S = fnSpec (E7) 0 Try.f7 args S := rfl
def u7 := And.intro @vv7 (And.intro @ty7 (And.intro @call7 (And.intro @nw7 (And.intro @md7 (And.intro @rw7 (And.intro @kp7 (And.intro @lp7 (@bx7))))))))
theorem ok7 : SoundAt Try.prog 7 (v7) := soundAt_of mixed tyOk rfl (by intro p hp; simp only [List.cons_append, List.nil_append, List.mem_cons, List.mem_append, List.not_mem_nil, or_false] at hp; rcases hp with rfl <;> first | exact ok24) (f := 7) (fn := Try.f7) (by kernel_rfl) (by kernel_rfl) (by kernel_rfl) _

/-! 8: stevedore/stevedorebase.Node (1 parameters) -/
noncomputable def E8 : Env := { ty := ty, call := callOf ([(28, v28)]), news := newsOf [], mode := modeOf [], rows := false, keep := keepOf [(4, [2]), (3, [2, 3]), (2, [1, 2, 3]), (1, [1, 2, 3]), (0, [1, 2])], loops := loopsOf [], boxes := boxesOf [] }
theorem ty8 : (E8).ty = ty := rfl
theorem call8 (f : Nat) (args : List V) (S : St) : (E8).call f args S = callOf ([(28, v28)]) f args S := rfl
theorem nw8 (f : Nat) : (E8).news f = newsOf [] f := rfl
theorem md8 (f : Nat) : (E8).mode f = modeOf [] f := rfl
theorem rw8 : (E8).rows = false := rfl
theorem kp8 (f : Nat) : (E8).keep f = keepOf [(4, [2]), (3, [2, 3]), (2, [1, 2, 3]), (1, [1, 2, 3]), (0, [1, 2])] f := rfl
theorem lp8 (f : Nat) : (E8).loops f = loopsOf [] f := rfl
theorem bx8 (f : Nat) : (E8).boxes f = boxesOf [] f := rfl
noncomputable def v8 : Spec := fnSpec (E8) 1 Try.f8
theorem vv8 (args : List V) (S : St) : v8 args S = fnSpec (E8) 1 Try.f8 args S := rfl
def u8 := And.intro @vv8 (And.intro @ty8 (And.intro @call8 (And.intro @nw8 (And.intro @md8 (And.intro @rw8 (And.intro @kp8 (And.intro @lp8 (@bx8))))))))
theorem ok8 : SoundAt Try.prog 8 (v8) := soundAt_of mixed tyOk rfl (by intro p hp; simp only [List.cons_append, List.nil_append, List.mem_cons, List.mem_append, List.not_mem_nil, or_false] at hp; rcases hp with rfl <;> first | exact ok28) (f := 8) (fn := Try.f8) (by kernel_rfl) (by kernel_rfl) (by kernel_rfl) _

/-! 55: slices.Index[[]string,string] (2 parameters) -/
noncomputable def E55 : Env := { ty := ty, call := callOf ([]), news := newsOf [], mode := modeOf [], rows := false, keep := keepOf [(7, [4]), (6, [0, 1, 7, 8]), (5, [4]), (4, [0, 1, 5, 7, 8, 16]), (3, [0, 1, 5, 7, 8]), (2, [0, 1, 7, 8, 9]), (1, [0, 1, 7, 8]), (0, [0, 1])], loops := loopsOf [(2, ([0, 1, 7, 8], []))], boxes := boxesOf [] }
theorem ty55 : (E55).ty = ty := rfl
theorem call55 (f : Nat) (args : List V) (S : St) : (E55).call f args S = callOf ([]) f args S := rfl
theorem nw55 (f : Nat) : (E55).news f = newsOf [] f := rfl
theorem md55 (f : Nat) : (E55).mode f = modeOf [] f := rfl
theorem rw55 : (E55).rows = false := rfl
theorem kp55 (f : Nat) : (E55).keep f = keepOf [(7, [4]), (6, [0, 1, 7, 8]), (5, [4]), (4, [0, 1, 5, 7, 8, 16]), (3, [0, 1, 5, 7, 8]), (2, [0, 1, 7, 8, 9]), (1, [0, 1, 7, 8]), (0, [0, 1])] f := rfl
theorem lp55 (f : Nat) : (E55).loops f = loopsOf [(2, ([0, 1, 7, 8], []))] f := rfl
theorem bx55 (f : Nat) : (E55).boxes f = boxesOf [] f := rfl
noncomputable def v55 : Spec := fnSpec (E55) 1 Try.f55
theorem vv55 (args : List V) (S : St) : v55 args S = fnSpec (E55) 1 Try.f55 args S := rfl
def u55 := And.intro @vv55 (And.intro @ty55 (And.intro @call55 (And.intro @nw55 (And.intro @md55 (And.intro @rw55 (And.intro @kp55 (And.intro @lp55 (@bx55))))))))
theorem ok55 : SoundAt Try.prog 55 (v55) := soundAt_of mixed tyOk rfl (by intro p hp; simp at hp) (f := 55) (fn := Try.f55) (by kernel_rfl) (by kernel_rfl) (by kernel_rfl) _

/-! 29: slices.Contains[[]string,string] (2 parameters) -/
noncomputable def E29 : Env := { ty := ty, call := callOf ([(55, v55)]), news := newsOf [], mode := modeOf [], rows := false, keep := keepOf [(1, [4]), (0, [0, 1])], loops := loopsOf [], boxes := boxesOf [] }
theorem ty29 : (E29).ty = ty := rfl
theorem call29 (f : Nat) (args : List V) (S : St) : (E29).call f args S = callOf ([(55, v55)]) f args S := rfl
theorem nw29 (f : Nat) : (E29).news f = newsOf [] f := rfl
theorem md29 (f : Nat) : (E29).mode f = modeOf [] f := rfl
theorem rw29 : (E29).rows = false := rfl
theorem kp29 (f : Nat) : (E29).keep f = keepOf [(1, [4]), (0, [0, 1])] f := rfl
theorem lp29 (f : Nat) : (E29).loops f = loopsOf [] f := rfl
theorem bx29 (f : Nat) : (E29).boxes f = boxesOf [] f := rfl
noncomputable def v29 : Spec := fnSpec (E29) 1 Try.f29
theorem vv29 (args : List V) (S : St) : v29 args S = fnSpec (E29) 1 Try.f29 args S := rfl
def u29 := And.intro @vv29 (And.intro @ty29 (And.intro @call29 (And.intro @nw29 (And.intro @md29 (And.intro @rw29 (And.intro @kp29 (And.intro @lp29 (@bx29))))))))
theorem ok29 : SoundAt Try.prog 29 (v29) := soundAt_of mixed tyOk rfl (by intro p hp; simp only [List.cons_append, List.nil_append, List.mem_cons, List.mem_append, List.not_mem_nil, or_false] at hp; rcases hp with rfl <;> first | exact ok55) (f := 29) (fn := Try.f29) (by kernel_rfl) (by kernel_rfl) (by kernel_rfl) _

/-! 78: cmp.isNaN[string] (1 parameters) -/
noncomputable def E78 : Env := { ty := ty, call := callOf ([]), news := newsOf [], mode := modeOf [], rows := false, keep := keepOf [(1, [2]), (0, [0])], loops := loopsOf [], boxes := boxesOf [] }
theorem ty78 : (E78).ty = ty := rfl
theorem call78 (f : Nat) (args : List V) (S : St) : (E78).call f args S = callOf ([]) f args S := rfl
theorem nw78 (f : Nat) : (E78).news f = newsOf [] f := rfl
theorem md78 (f : Nat) : (E78).mode f = modeOf [] f := rfl
theorem rw78 : (E78).rows = false := rfl
theorem kp78 (f : Nat) : (E78).keep f = keepOf [(1, [2]), (0, [0])] f := rfl
theorem lp78 (f : Nat) : (E78).loops f = loopsOf [] f := rfl
theorem bx78 (f : Nat) : (E78).boxes f = boxesOf [] f := rfl
noncomputable def v78 : Spec := fnSpec (E78) 1 Try.f78
theorem vv78 (args : List V) (S : St) : v78 args S = fnSpec (E78) 1 Try.f78 args S := rfl
def u78 := And.intro @vv78 (And.intro @ty78 (And.intro @call78 (And.intro @nw78 (And.intro @md78 (And.intro @rw78 (And.intro @kp78 (And.intro @lp78 (@bx78))))))))
theorem ok78 : SoundAt Try.prog 78 (v78) := soundAt_of mixed tyOk rfl (by intro p hp; simp at hp) (f := 78) (fn := Try.f78) (by kernel_rfl) (by kernel_rfl) (by kernel_rfl) _

/-! 74: cmp.Less[string] (2 parameters) -/
noncomputable def E74 : Env := { ty := ty, call := callOf ([(78, v78)]), news := newsOf [], mode := modeOf [], rows := false, keep := keepOf [(1, [4]), (0, [0, 1])], loops := loopsOf [], boxes := boxesOf [] }
theorem ty74 : (E74).ty = ty := rfl
theorem call74 (f : Nat) (args : List V) (S : St) : (E74).call f args S = callOf ([(78, v78)]) f args S := rfl
theorem nw74 (f : Nat) : (E74).news f = newsOf [] f := rfl
theorem md74 (f : Nat) : (E74).mode f = modeOf [] f := rfl
theorem rw74 : (E74).rows = false := rfl
theorem kp74 (f : Nat) : (E74).keep f = keepOf [(1, [4]), (0, [0, 1])] f := rfl
theorem lp74 (f : Nat) : (E74).loops f = loopsOf [] f := rfl
theorem bx74 (f : Nat) : (E74).boxes f = boxesOf [] f := rfl
noncomputable def v74 : Spec := fnSpec (E74) 1 Try.f74
theorem vv74 (args : List V) (S : St) : v74 args S = fnSpec (E74) 1 Try.f74 args S := rfl
def u74 := And.intro @vv74 (And.intro @ty74 (And.intro @call74 (And.intro @nw74 (And.intro @md74 (And.intro @rw74 (And.intro @kp74 (And.intro @lp74 (@bx74))))))))
theorem ok74 : SoundAt Try.prog 74 (v74) := soundAt_of mixed tyOk rfl (by intro p hp; simp only [List.cons_append, List.nil_append, List.mem_cons, List.mem_append, List.not_mem_nil, or_false] at hp; rcases hp with rfl <;> first | exact ok78) (f := 74) (fn := Try.f74) (by kernel_rfl) (by kernel_rfl) (by kernel_rfl) _

/-! 75: slices.isNaN[string] (1 parameters) -/
noncomputable def E75 : Env := { ty := ty, call := callOf ([]), news := newsOf [], mode := modeOf [], rows := false, keep := keepOf [(1, [2]), (0, [0])], loops := loopsOf [], boxes := boxesOf [] }
theorem ty75 : (E75).ty = ty := rfl
theorem call75 (f : Nat) (args : List V) (S : St) : (E75).call f args S = callOf ([]) f args S := rfl
theorem nw75 (f : Nat) : (E75).news f = newsOf [] f := rfl
theorem md75 (f : Nat) : (E75).mode f = modeOf [] f := rfl
theorem rw75 : (E75).rows = false := rfl
theorem kp75 (f : Nat) : (E75).keep f = keepOf [(1, [2]), (0, [0])] f := rfl
theorem lp75 (f : Nat) : (E75).loops f = loopsOf [] f := rfl
theorem bx75 (f : Nat) : (E75).boxes f = boxesOf [] f := rfl
noncomputable def v75 : Spec := fnSpec (E75) 1 Try.f75
theorem vv75 (args : List V) (S : St) : v75 args S = fnSpec (E75) 1 Try.f75 args S := rfl
def u75 := And.intro @vv75 (And.intro @ty75 (And.intro @call75 (And.intro @nw75 (And.intro @md75 (And.intro @rw75 (And.intro @kp75 (And.intro @lp75 (@bx75))))))))
theorem ok75 : SoundAt Try.prog 75 (v75) := soundAt_of mixed tyOk rfl (by intro p hp; simp at hp) (f := 75) (fn := Try.f75) (by kernel_rfl) (by kernel_rfl) (by kernel_rfl) _

/-! 69: slices.BinarySearch[[]string,string] (2 parameters) -/
noncomputable def E69 : Env := { ty := ty, call := callOf ([(74, v74), (75, v75)]), news := newsOf [], mode := modeOf [], rows := false, keep := keepOf [(8, [4, 5]), (6, [0, 1, 6, 7, 8]), (7, [0, 1, 6, 7, 8]), (5, [0, 1, 6, 7, 8, 9, 27]), (4, [0, 1, 6, 7, 8, 9]), (3, [0, 1, 6, 7, 8, 15]), (2, [0, 1, 6, 7, 8]), (1, [0, 1, 6]), (0, [0, 1])], loops := loopsOf [(3, ([0, 1, 6, 7, 8], []))], boxes := boxesOf [] }
theorem ty69 : (E69).ty = ty := rfl
theorem call69 (f : Nat) (args : List V) (S : St) : (E69).call f args S = callOf ([(74, v74), (75, v75)]) f args S := rfl
theorem nw69 (f : Nat) : (E69).news f = newsOf [] f := rfl
theorem md69 (f : Nat) : (E69).mode f = modeOf [] f := rfl
theorem rw69 : (E69).rows = false := rfl
theorem kp69 (f : Nat) : (E69).keep f = keepOf [(8, [4, 5]), (6, [0, 1, 6, 7, 8]), (7, [0, 1, 6, 7, 8]), (5, [0, 1, 6, 7, 8, 9, 27]), (4, [0, 1, 6, 7, 8, 9]), (3, [0, 1, 6, 7, 8, 15]), (2, [0, 1, 6, 7, 8]), (1, [0, 1, 6]), (0, [0, 1])] f := rfl
theorem lp69 (f : Nat) : (E69).loops f = loopsOf [(3, ([0, 1, 6, 7, 8], []))] f := rfl
theorem bx69 (f : Nat) : (E69).boxes f = boxesOf [] f := rfl
noncomputable def v69 : Spec := fnSpec (E69) 1 Try.f69
theorem vv69 (args : List V) (S : St) : v69 args S = fnSpec (E69) 1 Try.f69 args S := rfl
def u69 := And.intro @vv69 (And.intro @ty69 (And.intro @call69 (And.intro @nw69 (And.intro @md69 (And.intro @rw69 (And.intro @kp69 (And.intro @lp69 (@bx69))))))))
theorem ok69 : SoundAt Try.prog 69 (v69) := soundAt_of mixed tyOk rfl (by intro p hp; simp only [List.cons_append, List.nil_append, List.mem_cons, List.mem_append, List.not_mem_nil, or_false] at hp; rcases hp with rfl | rfl <;> first | exact ok74 | exact ok75) (f := 69) (fn := Try.f69) (by kernel_rfl) (by kernel_rfl) (by kernel_rfl) _

/-! 56: stevedore/info.put[string] (2 parameters) -/
noncomputable def E56 : Env := { ty := ty, call := callOf ([(69, v69)]), news := newsOf [], mode := modeOf [(69, 1)], rows := true, keep := keepOf [(4, [4]), (3, [4]), (2, [0, 1, 5, 13]), (1, [0, 1, 5, 6]), (0, [0, 1])], loops := loopsOf [], boxes := boxesOf [] }
theorem ty56 : (E56).ty = ty := rfl
theorem call56 (f : Nat) (args : List V) (S : St) : (E56).call f args S = callOf ([(69, v69)]) f args S := rfl
theorem nw56 (f : Nat) : (E56).news f = newsOf [] f := rfl
theorem md56 (f : Nat) : (E56).mode f = modeOf [(69, 1)] f := rfl
theorem rw56 : (E56).rows = true := rfl
theorem kp56 (f : Nat) : (E56).keep f = keepOf [(4, [4]), (3, [4]), (2, [0, 1, 5, 13]), (1, [0, 1, 5, 6]), (0, [0, 1])] f := rfl
theorem lp56 (f : Nat) : (E56).loops f = loopsOf [] f := rfl
theorem bx56 (f : Nat) : (E56).boxes f = boxesOf [] f := rfl
noncomputable def v56 : Spec := fnSpec (E56) 2 Try.f56
theorem vv56 (args : List V) (S : St) : v56 args S = fnSpec (E56) 2 Try.f56 args S := rfl
def u56 := And.intro @vv56 (And.intro @ty56 (And.intro @call56 (And.intro @nw56 (And.intro @md56 (And.intro @rw56 (And.intro @kp56 (And.intro @lp56 (@bx56))))))))
theorem ok56 : SoundAt Try.prog 56 (v56) := soundAt_of mixed tyOk rfl (by intro p hp; simp only [List.cons_append, List.nil_append, List.mem_cons, List.mem_append, List.not_mem_nil, or_false] at hp; rcases hp with rfl <;> first | exact ok69) (f := 56) (fn := Try.f56) (by kernel_rfl) (by kernel_rfl) (by kernel_rfl) _

/-! 63: stevedore/quant.of (1 parameters) -/
noncomputable def E63 : Env := { ty := ty, call := callOf ([]), news := newsOf [], mode := modeOf [], rows := false, keep := keepOf [(1, [2]), (0, [1, 2])], loops := loopsOf [], boxes := boxesOf [] }
theorem ty63 : (E63).ty = ty := rfl
theorem call63 (f : Nat) (args : List V) (S : St) : (E63).call f args S = callOf ([]) f args S := rfl
theorem nw63 (f : Nat) : (E63).news f = newsOf [] f := rfl
theorem md63 (f : Nat) : (E63).mode f = modeOf [] f := rfl
theorem rw63 : (E63).rows = false := rfl
theorem kp63 (f : Nat) : (E63).keep f = keepOf [(1, [2]), (0, [1, 2])] f := rfl
theorem lp63 (f : Nat) : (E63).loops f = loopsOf [] f := rfl
theorem bx63 (f : Nat) : (E63).boxes f = boxesOf [] f := rfl
noncomputable def v63 : Spec := fnSpec (E63) 1 Try.f63
theorem vv63 (args : List V) (S : St) : v63 args S = fnSpec (E63) 1 Try.f63 args S := rfl
def u63 := And.intro @vv63 (And.intro @ty63 (And.intro @call63 (And.intro @nw63 (And.intro @md63 (And.intro @rw63 (And.intro @kp63 (And.intro @lp63 (@bx63))))))))
theorem ok63 : SoundAt Try.prog 63 (v63) := soundAt_of mixed tyOk rfl (by intro p hp; simp at hp) (f := 63) (fn := Try.f63) (by kernel_rfl) (by kernel_rfl) (by kernel_rfl) _

/-! 64: (stevedore/quant.vector).res (1 parameters) -/
noncomputable def E64 : Env := { ty := ty, call := callOf ([]), news := newsOf [], mode := modeOf [], rows := false, keep := keepOf [(1, [2]), (0, [1, 2])], loops := loopsOf [], boxes := boxesOf [] }
theorem ty64 : (E64).ty = ty := rfl
theorem call64 (f : Nat) (args : List V) (S : St) : (E64).call f args S = callOf ([]) f args S := rfl
theorem nw64 (f : Nat) : (E64).news f = newsOf [] f := rfl
theorem md64 (f : Nat) : (E64).mode f = modeOf [] f := rfl
theorem rw64 : (E64).rows = false := rfl
theorem kp64 (f : Nat) : (E64).keep f = keepOf [(1, [2]), (0, [1, 2])] f := rfl
theorem lp64 (f : Nat) : (E64).loops f = loopsOf [] f := rfl
theorem bx64 (f : Nat) : (E64).boxes f = boxesOf [] f := rfl
noncomputable def v64 : Spec := fnSpec (E64) 1 Try.f64
theorem vv64 (args : List V) (S : St) : v64 args S = fnSpec (E64) 1 Try.f64 args S := rfl
def u64 := And.intro @vv64 (And.intro @ty64 (And.intro @call64 (And.intro @nw64 (And.intro @md64 (And.intro @rw64 (And.intro @kp64 (And.intro @lp64 (@bx64))))))))
theorem ok64 : SoundAt Try.prog 64 (v64) := soundAt_of mixed tyOk rfl (by intro p hp; simp at hp) (f := 64) (fn := Try.f64) (by kernel_rfl) (by kernel_rfl) (by kernel_rfl) _

/-! 45: stevedore/quant.both (3 parameters) -/
noncomputable def E45 (cl : List (Nat × Spec)) : Env := { ty := ty, call := callOf ([(63, v63), (64, v64)] ++ cl), news := newsOf [], mode := modeOf [], rows := false, keep := keepOf [(1, [6]), (0, [2, 3, 4, 6])], loops := loopsOf [], boxes := boxesOf [] }
theorem ty45 (cl : List (Nat × Spec)) : (E45 cl).ty = ty := rfl
theorem call45 (cl : List (Nat × Spec)) (f : Nat) (args : List V) (S : St) : (E45 cl).call f args S = callOf ([(63, v63), (64, v64)] ++ cl) f args S := rfl
theorem nw45 (cl : List (Nat × Spec)) (f : Nat) : (E45 cl).news f = newsOf [] f := rfl
theorem md45 (cl : List (Nat × Spec)) (f : Nat) : (E45 cl).mode f = modeOf [] f := rfl
theorem rw45 (cl : List (Nat × Spec)) : (E45 cl).rows = false := rfl
theorem kp45 (cl : List (Nat × Spec)) (f : Nat) : (E45 cl).keep f = keepOf [(1, [6]), (0, [2, 3, 4, 6])] f := rfl
theorem lp45 (cl : List (Nat × Spec)) (f : Nat) : (E45 cl).loops f = loopsOf [] f := rfl
theorem bx45 (cl : List (Nat × Spec)) (f : Nat) : (E45 cl).boxes f = boxesOf [] f := rfl
noncomputable def v45 (cl : List (Nat × Spec)) : Spec := fnSpec (E45 cl) 1 Try.f45
theorem vv45 (cl : List (Nat × Spec)) (args : List V) (S : St) : v45 cl args S = fnSpec (E45 cl) 1 Try.f45 args S := rfl
def u45 := And.intro @vv45 (And.intro @ty45 (And.intro @call45 (And.intro @nw45 (And.intro @md45 (And.intro @rw45 (And.intro @kp45 (And.intro @lp45 (@bx45))))))))
theorem ok45 (cl : List (Nat × Spec)) (hcl : ∀ p ∈ cl, SoundAt Try.prog p.1 p.2) : SoundAt Try.prog 45 (v45 cl) := soundAt_of mixed tyOk rfl (by intro p hp; simp only [List.cons_append, List.nil_append, List.mem_cons, List.mem_append, List.not_mem_nil, or_false] at hp; rcases hp with rfl | rfl | hp <;> first | exact ok63 | exact ok64 | exact hcl p hp) (f := 45) (fn := Try.f45) (by kernel_rfl) (by kernel_rfl) (by kernel_rfl) _

/-! 73: stevedore/quant.Clamp (1 parameters) -/
noncomputable def E73 : Env := { ty := ty, call := callOf ([]), news := newsOf [], mode := modeOf [], rows := false, keep := keepOf [(1, [2]), (0, [0])], loops := loopsOf [], boxes := boxesOf [] }
theorem ty73 : (E73).ty = ty := rfl
theorem call73 (f : Nat) (args : List V) (S : St) : (E73).call f args S = callOf ([]) f args S := rfl
theorem nw73 (f : Nat) : (E73).news f = newsOf [] f := rfl
theorem md73 (f : Nat) : (E73).mode f = modeOf [] f := rfl
theorem rw73 : (E73).rows = false := rfl
theorem kp73 (f : Nat) : (E73).keep f = keepOf [(1, [2]), (0, [0])] f := rfl
theorem lp73 (f : Nat) : (E73).loops f = loopsOf [] f := rfl
theorem bx73 (f : Nat) : (E73).boxes f = boxesOf [] f := rfl
noncomputable def v73 : Spec := fnSpec (E73) 1 Try.f73
theorem vv73 (args : List V) (S : St) : v73 args S = fnSpec (E73) 1 Try.f73 args S := rfl
def u73 := And.intro @vv73 (And.intro @ty73 (And.intro @call73 (And.intro @nw73 (And.intro @md73 (And.intro @rw73 (And.intro @kp73 (And.intro @lp73 (@bx73))))))))
theorem ok73 : SoundAt Try.prog 73 (v73) := soundAt_of mixed tyOk rfl (by intro p hp; simp at hp) (f := 73) (fn := Try.f73) (by kernel_rfl) (by kernel_rfl) (by kernel_rfl) _

/-! 65: stevedore/quant.Add (2 parameters) -/
noncomputable def E65 : Env := { ty := ty, call := callOf ([(73, v73)]), news := newsOf [], mode := modeOf [], rows := false, keep := keepOf [(1, [4]), (0, [0, 1])], loops := loopsOf [], boxes := boxesOf [] }
theorem ty65 : (E65).ty = ty := rfl
theorem call65 (f : Nat) (args : List V) (S : St) : (E65).call f args S = callOf ([(73, v73)]) f args S := rfl
theorem nw65 (f : Nat) : (E65).news f = newsOf [] f := rfl
theorem md65 (f : Nat) : (E65).mode f = modeOf [] f := rfl
theorem rw65 : (E65).rows = false := rfl
theorem kp65 (f : Nat) : (E65).keep f = keepOf [(1, [4]), (0, [0, 1])] f := rfl
theorem lp65 (f : Nat) : (E65).loops f = loopsOf [] f := rfl
theorem bx65 (f : Nat) : (E65).boxes f = boxesOf [] f := rfl
noncomputable def v65 : Spec := fnSpec (E65) 1 Try.f65
theorem vv65 (args : List V) (S : St) : v65 args S = fnSpec (E65) 1 Try.f65 args S := rfl
def u65 := And.intro @vv65 (And.intro @ty65 (And.intro @call65 (And.intro @nw65 (And.intro @md65 (And.intro @rw65 (And.intro @kp65 (And.intro @lp65 (@bx65))))))))
theorem ok65 : SoundAt Try.prog 65 (v65) := soundAt_of mixed tyOk rfl (by intro p hp; simp only [List.cons_append, List.nil_append, List.mem_cons, List.mem_append, List.not_mem_nil, or_false] at hp; rcases hp with rfl <;> first | exact ok73) (f := 65) (fn := Try.f65) (by kernel_rfl) (by kernel_rfl) (by kernel_rfl) _

/-! 46: (stevedore/quant.vector).plus (2 parameters) -/
noncomputable def E46 : Env := { ty := ty, call := callOf ([(65, v65)]), news := newsOf [], mode := modeOf [], rows := false, keep := keepOf [(6, [4]), (5, [2, 3, 4, 6]), (4, [2, 3, 4, 6]), (3, [2, 3, 4, 5, 6]), (2, [2, 3, 4, 6, 7]), (1, [2, 3, 4, 6]), (0, [2, 3, 4])], loops := loopsOf [(2, ([2, 3, 4, 6], []))], boxes := boxesOf [] }
theorem ty46 : (E46).ty = ty := rfl
theorem call46 (f : Nat) (args : List V) (S : St) : (E46).call f args S = callOf ([(65, v65)]) f args S := rfl
theorem nw46 (f : Nat) : (E46).news f = newsOf [] f := rfl
theorem md46 (f : Nat) : (E46).mode f = modeOf [] f := rfl
theorem rw46 : (E46).rows = false := rfl
theorem kp46 (f : Nat) : (E46).keep f = keepOf [(6, [4]), (5, [2, 3, 4, 6]), (4, [2, 3, 4, 6]), (3, [2, 3, 4, 5, 6]), (2, [2, 3, 4, 6, 7]), (1, [2, 3, 4, 6]), (0, [2, 3, 4])] f := rfl
theorem lp46 (f : Nat) : (E46).loops f = loopsOf [(2, ([2, 3, 4, 6], []))] f := rfl
theorem bx46 (f : Nat) : (E46).boxes f = boxesOf [] f := rfl
noncomputable def v46 : Spec := fnSpec (E46) 1 Try.f46
theorem vv46 (args : List V) (S : St) : v46 args S = fnSpec (E46) 1 Try.f46 args S := rfl
def u46 := And.intro @vv46 (And.intro @ty46 (And.intro @call46 (And.intro @nw46 (And.intro @md46 (And.intro @rw46 (And.intro @kp46 (And.intro @lp46 (@bx46))))))))
theorem ok46 : SoundAt Try.prog 46 (v46) := soundAt_of mixed tyOk rfl (by intro p hp; simp only [List.cons_append, List.nil_append, List.mem_cons, List.mem_append, List.not_mem_nil, or_false] at hp; rcases hp with rfl <;> first | exact ok65) (f := 46) (fn := Try.f46) (by kernel_rfl) (by kernel_rfl) (by kernel_rfl) _

/-! 20: stevedore/quant.Plus (2 parameters) -/
noncomputable def E20 : Env := { ty := ty, call := callOf ([(45, v45 ([(46, v46)])), (46, v46)]), news := newsOf [], mode := modeOf [], rows := false, keep := keepOf [(1, [4]), (0, [2, 3, 4])], loops := loopsOf [], boxes := boxesOf [] }
theorem ty20 : (E20).ty = ty := rfl
theorem call20 (f : Nat) (args : List V) (S : St) : (E20).call f args S = callOf ([(45, v45 ([(46, v46)])), (46, v46)]) f args S := rfl
theorem nw20 (f : Nat) : (E20).news f = newsOf [] f := rfl
theorem md20 (f : Nat) : (E20).mode f = modeOf [] f := rfl
theorem rw20 : (E20).rows = false := rfl
theorem kp20 (f : Nat) : (E20).keep f = keepOf [(1, [4]), (0, [2, 3, 4])] f := rfl
theorem lp20 (f : Nat) : (E20).loops f = loopsOf [] f := rfl
theorem bx20 (f : Nat) : (E20).boxes f = boxesOf [] f := rfl
noncomputable def v20 : Spec := fnSpec (E20) 1 Try.f20
theorem vv20 (args : List V) (S : St) : v20 args S = fnSpec (E20) 1 Try.f20 args S := rfl
def u20 := And.intro @vv20 (And.intro @ty20 (And.intro @call20 (And.intro @nw20 (And.intro @md20 (And.intro @rw20 (And.intro @kp20 (And.intro @lp20 (@bx20))))))))
theorem ok20 : SoundAt Try.prog 20 (v20) := soundAt_of mixed tyOk rfl (by intro p hp; simp only [List.cons_append, List.nil_append, List.mem_cons, List.mem_append, List.not_mem_nil, or_false] at hp; rcases hp with rfl | rfl <;> first | exact ok45 _ (fun p hp => by simp only [List.cons_append, List.nil_append, List.mem_cons, List.mem_append, List.not_mem_nil, or_false] at hp; rcases hp with rfl <;> first | exact ok46) | exact ok46) (f := 20) (fn := Try.f20) (by kernel_rfl) (by kernel_rfl) (by kernel_rfl) _

/-! 79: cmp.isNaN[int] (1 parameters) -/
noncomputable def E79 : Env := { ty := ty, call := callOf ([]), news := newsOf [], mode := modeOf [], rows := false, keep := keepOf [(1, [2]), (0, [0])], loops := loopsOf [], boxes := boxesOf [] }
theorem ty79 : (E79).ty = ty := rfl
theorem call79 (f : Nat) (args : List V) (S : St) : (E79).call f args S = callOf ([]) f args S := rfl
theorem nw79 (f : Nat) : (E79).news f = newsOf [] f := rfl
theorem md79 (f : Nat) : (E79).mode f = modeOf [] f := rfl
theorem rw79 : (E79).rows = false := rfl
theorem kp79 (f : Nat) : (E79).keep f = keepOf [(1, [2]), (0, [0])] f := rfl
theorem lp79 (f : Nat) : (E79).loops f = loopsOf [] f := rfl
theorem bx79 (f : Nat) : (E79).boxes f = boxesOf [] f := rfl
noncomputable def v79 : Spec := fnSpec (E79) 1 Try.f79
theorem vv79 (args : List V) (S : St) : v79 args S = fnSpec (E79) 1 Try.f79 args S := rfl
def u79 := And.intro @vv79 (And.intro @ty79 (And.intro @call79 (And.intro @nw79 (And.intro @md79 (And.intro @rw79 (And.intro @kp79 (And.intro @lp79 (@bx79))))))))
theorem ok79 : SoundAt Try.prog 79 (v79) := soundAt_of mixed tyOk rfl (by intro p hp; simp at hp) (f := 79) (fn := Try.f79) (by kernel_rfl) (by kernel_rfl) (by kernel_rfl) _

/-! 76: cmp.Less[int] (2 parameters) -/
noncomputable def E76 : Env := { ty := ty, call := callOf ([(79, v79)]), news := newsOf [], mode := modeOf [], rows := false, keep := keepOf [(1, [4]), (0, [0, 1])], loops := loopsOf [], boxes := boxesOf [] }
theorem ty76 : (E76).ty = ty := rfl
theorem call76 (f : Nat) (args : List V) (S : St) : (E76).call f args S = callOf ([(79, v79)]) f args S := rfl
theorem nw76 (f : Nat) : (E76).news f = newsOf [] f := rfl
theorem md76 (f : Nat) : (E76).mode f = modeOf [] f := rfl
theorem rw76 : (E76).rows = false := rfl
theorem kp76 (f : Nat) : (E76).keep f = keepOf [(1, [4]), (0, [0, 1])] f := rfl
theorem lp76 (f : Nat) : (E76).loops f = loopsOf [] f := rfl
theorem bx76 (f : Nat) : (E76).boxes f = boxesOf [] f := rfl
noncomputable def v76 : Spec := fnSpec (E76) 1 Try.f76
theorem vv76 (args : List V) (S : St) : v76 args S = fnSpec (E76) 1 Try.f76 args S := rfl
def u76 := And.intro @vv76 (And.intro @ty76 (And.intro @call76 (And.intro @nw76 (And.intro @md76 (And.intro @rw76 (And.intro @kp76 (And.intro @lp76 (@bx76))))))))
theorem ok76 : SoundAt Try.prog 76 (v76) := soundAt_of mixed tyOk rfl (by intro p hp; simp only [List.cons_append, List.nil_append, List.mem_cons, List.mem_append, List.not_mem_nil, or_false] at hp; rcases hp with rfl <;> first | exact ok79) (f := 76) (fn := Try.f76) (by kernel_rfl) (by kernel_rfl) (by kernel_rfl) _

/-! 77: slices.isNaN[int] (1 parameters) -/
noncomputable def E77 : Env := { ty := ty, call := callOf ([]), news := newsOf [], mode := modeOf [], rows := false, keep := keepOf [(1, [2]), (0, [0])], loops := loopsOf [], boxes := boxesOf [] }
theorem ty77 : (E77).ty = ty := rfl
theorem call77 (f : Nat) (args : List V) (S : St) : (E77).call f args S = callOf ([]) f args S := rfl
theorem nw77 (f : Nat) : (E77).news f = newsOf [] f := rfl
theorem md77 (f : Nat) : (E77).mode f = modeOf [] f := rfl
theorem rw77 : (E77).rows = false := rfl
theorem kp77 (f : Nat) : (E77).keep f = keepOf [(1, [2]), (0, [0])] f := rfl
theorem lp77 (f : Nat) : (E77).loops f = loopsOf [] f := rfl
theorem bx77 (f : Nat) : (E77).boxes f = boxesOf [] f := rfl
noncomputable def v77 : Spec := fnSpec (E77) 1 Try.f77
theorem vv77 (args : List V) (S : St) : v77 args S = fnSpec (E77) 1 Try.f77 args S := rfl
def u77 := And.intro @vv77 (And.intro @ty77 (And.intro @call77 (And.intro @nw77 (And.intro @md77 (And.intro @rw77 (And.intro @kp77 (And.intro @lp77 (@bx77))))))))
theorem ok77 : SoundAt Try.prog 77 (v77) := soundAt_of mixed tyOk rfl (by intro p hp; simp at hp) (f := 77) (fn := Try.f77) (by kernel_rfl) (by kernel_rfl) (by kernel_rfl) _

/-! 70: slices.BinarySearch[[]int,int] (2 parameters) -/
noncomputable def E70 : Env := { ty := ty, call := callOf ([(76, v76), (77, v77)]), news := newsOf [], mode := modeOf [], rows := false, keep := keepOf [(8, [4, 5]), (6, [0, 1, 6, 7, 8]), (7, [0, 1, 6, 7, 8]), (5, [0, 1, 6, 7, 8, 9, 27]), (4, [0, 1, 6, 7, 8, 9]), (3, [0, 1, 6, 7, 8, 15]), (2, [0, 1, 6, 7, 8]), (1, [0, 1, 6]), (0, [0, 1])], loops := loopsOf [(3, ([0, 1, 6, 7, 8], []))], boxes := boxesOf [] }
theorem ty70 : (E70).ty = ty := rfl
theorem call70 (f : Nat) (args : List V) (S : St) : (E70).call f args S = callOf ([(76, v76), (77, v77)]) f args S := rfl
theorem nw70 (f : Nat) : (E70).news f = newsOf [] f := rfl
theorem md70 (f : Nat) : (E70).mode f = modeOf [] f := rfl
theorem rw70 : (E70).rows = false := rfl
theorem kp70 (f : Nat) : (E70).keep f = keepOf [(8, [4, 5]), (6, [0, 1, 6, 7, 8]), (7, [0, 1, 6, 7, 8]), (5, [0, 1, 6, 7, 8, 9, 27]), (4, [0, 1, 6, 7, 8, 9]), (3, [0, 1, 6, 7, 8, 15]), (2, [0, 1, 6, 7, 8]), (1, [0, 1, 6]), (0, [0, 1])] f := rfl
theorem lp70 (f : Nat) : (E70).loops f = loopsOf [(3, ([0, 1, 6, 7, 8], []))] f := rfl
theorem bx70 (f : Nat) : (E70).boxes f = boxesOf [] f := rfl
noncomputable def v70 : Spec := fnSpec (E70) 1 Try.f70
theorem vv70 (args : List V) (S : St) : v70 args S = fnSpec (E70) 1 Try.f70 args S := rfl
def u70 := And.intro @vv70 (And.intro @ty70 (And.intro @call70 (And.intro @nw70 (And.intro @md70 (And.intro @rw70 (And.intro @kp70 (And.intro @lp70 (@bx70))))))))
theorem ok70 : SoundAt Try.prog 70 (v70) := soundAt_of mixed tyOk rfl (by intro p hp; simp only [List.cons_append, List.nil_append, List.mem_cons, List.mem_append, List.not_mem_nil, or_false] at hp; rcases hp with rfl | rfl <;> first | exact ok76 | exact ok77) (f := 70) (fn := Try.f70) (by kernel_rfl) (by kernel_rfl) (by kernel_rfl) _

/-! 57: stevedore/info.put[int] (2 parameters) -/
noncomputable def E57 : Env := { ty := ty, call := callOf ([(70, v70)]), news := newsOf [], mode := modeOf [(70, 1)], rows := true, keep := keepOf [(4, [4]), (3, [4]), (2, [0, 1, 5, 13]), (1, [0, 1, 5, 6]), (0, [0, 1])], loops := loopsOf [], boxes := boxesOf [] }
theorem ty57 : (E57).ty = ty := rfl
theorem call57 (f : Nat) (args : List V) (S : St) : (E57).call f args S = callOf ([(70, v70)]) f args S := rfl
theorem nw57 (f : Nat) : (E57).news f = newsOf [] f := rfl
theorem md57 (f : Nat) : (E57).mode f = modeOf [(70, 1)] f := rfl
theorem rw57 : (E57).rows = true := rfl
theorem kp57 (f : Nat) : (E57).keep f = keepOf [(4, [4]), (3, [4]), (2, [0, 1, 5, 13]), (1, [0, 1, 5, 6]), (0, [0, 1])] f := rfl
theorem lp57 (f : Nat) : (E57).loops f = loopsOf [] f := rfl
theorem bx57 (f : Nat) : (E57).boxes f = boxesOf [] f := rfl
noncomputable def v57 : Spec := fnSpec (E57) 2 Try.f57
theorem vv57 (args : List V) (S : St) : v57 args S = fnSpec (E57) 2 Try.f57 args S := rfl
def u57 := And.intro @vv57 (And.intro @ty57 (And.intro @call57 (And.intro @nw57 (And.intro @md57 (And.intro @rw57 (And.intro @kp57 (And.intro @lp57 (@bx57))))))))
theorem ok57 : SoundAt Try.prog 57 (v57) := soundAt_of mixed tyOk rfl (by intro p hp; simp only [List.cons_append, List.nil_append, List.mem_cons, List.mem_append, List.not_mem_nil, or_false] at hp; rcases hp with rfl <;> first | exact ok70) (f := 57) (fn := Try.f57) (by kernel_rfl) (by kernel_rfl) (by kernel_rfl) _

/-! 30: stevedore/info.with (2 parameters) -/
noncomputable def E30 : Env := { ty := ty, call := callOf ([(56, v56), (20, v20), (57, v57)]), news := newsOf [(56, 1), (57, 1)], mode := modeOf [], rows := false, keep := keepOf [(13, [4]), (12, [2, 4, 35, 36, 37]), (11, [2, 4, 35, 36, 37]), (10, [2, 4, 8, 35, 36, 37]), (9, [2, 4, 35, 36, 37, 38]), (8, [2, 4, 35, 36, 37]), (7, [2, 3, 4, 22, 23, 24]), (6, [2, 3, 4, 22, 23, 24]), (5, [2, 3, 4, 6, 22, 23, 24]), (4, [2, 3, 4, 22, 23, 24, 25]), (3, [2, 3, 4, 22, 23, 24]), (2, [2, 3, 4]), (1, [2, 3, 4]), (0, [2, 3, 4])], loops := loopsOf [(9, ([2, 4, 35, 36, 37], [])), (4, ([2, 3, 4, 22, 23, 24], []))], boxes := boxesOf [] }
theorem ty30 : (E30).ty = ty := rfl
theorem call30 (f : Nat) (args : List V) (S : St) : (E30).call f args S = callOf ([(56, v56), (20, v20), (57, v57)]) f args S := rfl
theorem nw30 (f : Nat) : (E30).news f = newsOf [(56, 1), (57, 1)] f := rfl
theorem md30 (f : Nat) : (E30).mode f = modeOf [] f := rfl
theorem rw30 : (E30).rows = false := rfl
theorem kp30 (f : Nat) : (E30).keep f = keepOf [(13, [4]), (12, [2, 4, 35, 36, 37]), (11, [2, 4, 35, 36, 37]), (10, [2, 4, 8, 35, 36, 37]), (9, [2, 4, 35, 36, 37, 38]), (8, [2, 4, 35, 36, 37]), (7, [2, 3, 4, 22, 23, 24]), (6, [2, 3, 4, 22, 23, 24]), (5, [2, 3, 4, 6, 22, 23, 24]), (4, [2, 3, 4, 22, 23, 24, 25]), (3, [2, 3, 4, 22, 23, 24]), (2, [2, 3, 4]), (1, [2, 3, 4]), (0, [2, 3, 4])] f := rfl
theorem lp30 (f : Nat) : (E30).loops f = loopsOf [(9, ([2, 4, 35, 36, 37], [])), (4, ([2, 3, 4, 22, 23, 24], []))] f := rfl
theorem bx30 (f : Nat) : (E30).boxes f = boxesOf [] f := rfl
noncomputable def v30 : Spec := fnSpec (E30) 2 Try.f30
theorem vv30 (args : List V) (S : St) : v30 args S = fnSpec (E30) 2 Try.f30 args S := rfl
def u30 := And.intro @vv30 (And.intro @ty30 (And.intro @call30 (And.intro @nw30 (And.intro @md30 (And.intro @rw30 (And.intro @kp30 (And.intro @lp30 (@bx30))))))))
theorem ok30 : SoundAt Try.prog 30 (v30) := soundAt_of mixed tyOk rfl (by intro p hp; simp only [List.cons_append, List.nil_append, List.mem_cons, List.mem_append, List.not_mem_nil, or_false] at hp; rcases hp with rfl | rfl | rfl <;> first | exact ok56 | exact ok20 | exact ok57) (f := 30) (fn := Try.f30) (by kernel_rfl) (by kernel_rfl) (by kernel_rfl) _

/-! 9: stevedore/info.Of (2 parameters) -/
noncomputable def E9 : Env := { ty := ty, call := callOf ([(29, v29), (30, v30)]), news := newsOf [(30, 3)], mode := modeOf [(29, 1)], rows := true, keep := keepOf [(8, [4]), (7, [4, 5, 10, 11, 12]), (6, [4, 5, 10, 11, 12]), (5, [4, 5, 7, 10, 11, 12, 21]), (4, [4, 5, 7, 10, 11, 12]), (3, [4, 5, 10, 11, 12, 13]), (2, [4, 5, 10, 11, 12]), (1, [1, 4, 5]), (0, [1, 2, 4])], loops := loopsOf [(3, ([4, 5, 10, 11, 12], []))], boxes := boxesOf [(3, [(4, (1, (99, 2))), (4, (2, (81, 3))), (4, (9, (9, 1))), (4, (13, (3, 1))), (4, (14, (9, 1))), (5, (1, (99, 2))), (5, (2, (81, 3))), (5, (9, (9, 1))), (5, (13, (3, 1))), (5, (14, (9, 1)))])] }
theorem ty9 : (E9).ty = ty := rfl
theorem call9 (f : Nat) (args : List V) (S : St) : (E9).call f args S = callOf ([(29, v29), (30, v30)]) f args S := rfl
theorem nw9 (f : Nat) : (E9).news f = newsOf [(30, 3)] f := rfl
theorem md9 (f : Nat) : (E9).mode f = modeOf [(29, 1)] f := rfl
theorem rw9 : (E9).rows = true := rfl
theorem kp9 (f : Nat) : (E9).keep f = keepOf [(8, [4]), (7, [4, 5, 10, 11, 12]), (6, [4, 5, 10, 11, 12]), (5, [4, 5, 7, 10, 11, 12, 21]), (4, [4, 5, 7, 10, 11, 12]), (3, [4, 5, 10, 11, 12, 13]), (2, [4, 5, 10, 11, 12]), (1, [1, 4, 5]), (0, [1, 2, 4])] f := rfl
theorem lp9 (f : Nat) : (E9).loops f = loopsOf [(3, ([4, 5, 10, 11, 12], []))] f := rfl
theorem bx9 (f : Nat) : (E9).boxes f = boxesOf [(3, [(4, (1, (99, 2))), (4, (2, (81, 3))), (4, (9, (9, 1))), (4, (13, (3, 1))), (4, (14, (9, 1))), (5, (1, (99, 2))), (5, (2, (81, 3))), (5, (9, (9, 1))), (5, (13, (3, 1))), (5, (14, (9, 1)))])] f := rfl
noncomputable def v9 : Spec := fnSpec (E9) 2 Try.f9
theorem vv9 (args : List V) (S : St) : v9 args S = fnSpec (E9) 2 Try.f9 args S := rfl
def u9 := And.intro @vv9 (And.intro @ty9 (And.intro @call9 (And.intro @nw9 (And.intro @md9 (And.intro @rw9 (And.intro @kp9 (And.intro @lp9 (@bx9))))))))
theorem ok9 : SoundAt Try.prog 9 (v9) := soundAt_of mixed tyOk rfl (by intro p hp; simp only [List.cons_append, List.nil_append, List.mem_cons, List.mem_append, List.not_mem_nil, or_false] at hp; rcases hp with rfl | rfl <;> first | exact ok29 | exact ok30) (f := 9) (fn := Try.f9) (by kernel_rfl) (by kernel_rfl) (by kernel_rfl) _

/-! 21: stevedore/stevedorebase.Has (2 parameters) -/
noncomputable def E21 : Env := { ty := ty, call := callOf ([]), news := newsOf [], mode := modeOf [], rows := false, keep := keepOf [(6, [4]), (3, [0, 1, 5]), (5, [4]), (4, [0, 1, 5, 17]), (2, [0, 1, 5, 9]), (1, [0, 1, 5]), (0, [0, 1])], loops := loopsOf [(2, ([0, 1, 5], []))], boxes := boxesOf [] }
theorem ty21 : (E21).ty = ty := rfl
theorem call21 (f : Nat) (args : List V) (S : St) : (E21).call f args S = callOf ([]) f args S := rfl
theorem nw21 (f : Nat) : (E21).news f = newsOf [] f := rfl
theorem md21 (f : Nat) : (E21).mode f = modeOf [] f := rfl
theorem rw21 : (E21).rows = false := rfl
theorem kp21 (f : Nat) : (E21).keep f = keepOf [(6, [4]), (3, [0, 1, 5]), (5, [4]), (4, [0, 1, 5, 17]), (2, [0, 1, 5, 9]), (1, [0, 1, 5]), (0, [0, 1])] f := rfl
theorem lp21 (f : Nat) : (E21).loops f = loopsOf [(2, ([0, 1, 5], []))] f := rfl
theorem bx21 (f : Nat) : (E21).boxes f = boxesOf [] f := rfl
noncomputable def v21 : Spec := fnSpec (E21) 1 Try.f21
theorem vv21 (args : List V) (S : St) : v21 args S = fnSpec (E21) 1 Try.f21 args S := rfl
def u21 := And.intro @vv21 (And.intro @ty21 (And.intro @call21 (And.intro @nw21 (And.intro @md21 (And.intro @rw21 (And.intro @kp21 (And.intro @lp21 (@bx21))))))))
theorem ok21 : SoundAt Try.prog 21 (v21) := soundAt_of mixed tyOk rfl (by intro p hp; simp at hp) (f := 21) (fn := Try.f21) (by kernel_rfl) (by kernel_rfl) (by kernel_rfl) _

/-! 71: stevedore/stevedoreref01.Clamp (1 parameters) -/
noncomputable def E71 : Env := { ty := ty, call := callOf ([]), news := newsOf [], mode := modeOf [], rows := false, keep := keepOf [(1, [2]), (0, [0])], loops := loopsOf [], boxes := boxesOf [] }
theorem ty71 : (E71).ty = ty := rfl
theorem call71 (f : Nat) (args : List V) (S : St) : (E71).call f args S = callOf ([]) f args S := rfl
theorem nw71 (f : Nat) : (E71).news f = newsOf [] f := rfl
theorem md71 (f : Nat) : (E71).mode f = modeOf [] f := rfl
theorem rw71 : (E71).rows = false := rfl
theorem kp71 (f : Nat) : (E71).keep f = keepOf [(1, [2]), (0, [0])] f := rfl
theorem lp71 (f : Nat) : (E71).loops f = loopsOf [] f := rfl
theorem bx71 (f : Nat) : (E71).boxes f = boxesOf [] f := rfl
noncomputable def v71 : Spec := fnSpec (E71) 1 Try.f71
theorem vv71 (args : List V) (S : St) : v71 args S = fnSpec (E71) 1 Try.f71 args S := rfl
def u71 := And.intro @vv71 (And.intro @ty71 (And.intro @call71 (And.intro @nw71 (And.intro @md71 (And.intro @rw71 (And.intro @kp71 (And.intro @lp71 (@bx71))))))))
theorem ok71 : SoundAt Try.prog 71 (v71) := soundAt_of mixed tyOk rfl (by intro p hp; simp at hp) (f := 71) (fn := Try.f71) (by kernel_rfl) (by kernel_rfl) (by kernel_rfl) _

/-! 58: stevedore/stevedoreref01.Add (2 parameters) -/
noncomputable def E58 : Env := { ty := ty, call := callOf ([(71, v71)]), news := newsOf [], mode := modeOf [], rows := false, keep := keepOf [(1, [4]), (0, [0, 1])], loops := loopsOf [], boxes := boxesOf [] }
theorem ty58 : (E58).ty = ty := rfl
theorem call58 (f : Nat) (args : List V) (S : St) : (E58).call f args S = callOf ([(71, v71)]) f args S := rfl
theorem nw58 (f : Nat) : (E58).news f = newsOf [] f := rfl
theorem md58 (f : Nat) : (E58).mode f = modeOf [] f := rfl
theorem rw58 : (E58).rows = false := rfl
theorem kp58 (f : Nat) : (E58).keep f = keepOf [(1, [4]), (0, [0, 1])] f := rfl
theorem lp58 (f : Nat) : (E58).loops f = loopsOf [] f := rfl
theorem bx58 (f : Nat) : (E58).boxes f = boxesOf [] f := rfl
noncomputable def v58 : Spec := fnSpec (E58) 1 Try.f58
theorem vv58 (args : List V) (S : St) : v58 args S = fnSpec (E58) 1 Try.f58 args S := rfl
def u58 := And.intro @vv58 (And.intro @ty58 (And.intro @call58 (And.intro @nw58 (And.intro @md58 (And.intro @rw58 (And.intro @kp58 (And.intro @lp58 (@bx58))))))))
theorem ok58 : SoundAt Try.prog 58 (v58) := soundAt_of mixed tyOk rfl (by intro p hp; simp only [List.cons_append, List.nil_append, List.mem_cons, List.mem_append, List.not_mem_nil, or_false] at hp; rcases hp with rfl <;> first | exact ok71) (f := 58) (fn := Try.f58) (by kernel_rfl) (by kernel_rfl) (by kernel_rfl) _

/-! 31: stevedore/stevedoreref01.Plus (2 parameters) -/
noncomputable def E31 : Env := { ty := ty, call := callOf ([(58, v58)]), news := newsOf [], mode := modeOf [], rows := false, keep := keepOf [(1, [4]), (0, [2, 3, 4])], loops := loopsOf [], boxes := boxesOf [] }
theorem ty31 : (E31).ty = ty := rfl
theorem call31 (f : Nat) (args : List V) (S : St) : (E31).call f args S = callOf ([(58, v58)]) f args S := rfl
theorem nw31 (f : Nat) : (E31).news f = newsOf [] f := rfl
theorem md31 (f : Nat) : (E31).mode f = modeOf [] f := rfl
theorem rw31 : (E31).rows = false := rfl
theorem kp31 (f : Nat) : (E31).keep f = keepOf [(1, [4]), (0, [2, 3, 4])] f := rfl
theorem lp31 (f : Nat) : (E31).loops f = loopsOf [] f := rfl
theorem bx31 (f : Nat) : (E31).boxes f = boxesOf [] f := rfl
noncomputable def v31 : Spec := fnSpec (E31) 1 Try.f31
theorem vv31 (args : List V) (S : St) : v31 args S = fnSpec (E31) 1 Try.f31 args S := rfl
def u31 := And.intro @vv31 (And.intro @ty31 (And.intro @call31 (And.intro @nw31 (And.intro @md31 (And.intro @rw31 (And.intro @kp31 (And.intro @lp31 (@bx31))))))))
theorem ok31 : SoundAt Try.prog 31 (v31) := soundAt_of mixed tyOk rfl (by intro p hp; simp only [List.cons_append, List.nil_append, List.mem_cons, List.mem_append, List.not_mem_nil, or_false] at hp; rcases hp with rfl <;> first | exact ok58) (f := 31) (fn := Try.f31) (by kernel_rfl) (by kernel_rfl) (by kernel_rfl) _

/-! 32: stevedore/stevedorebase.Sorted (1 parameters) -/
noncomputable def E32 : Env := { ty := ty, call := callOf ([]), news := newsOf [], mode := modeOf [], rows := false, keep := keepOf [(10, [2]), (4, [0, 3, 4]), (9, [0, 3, 4]), (8, [0, 3, 4, 5, 44]), (7, [0, 3, 4, 5]), (6, [0, 3, 4, 5, 27]), (5, [0, 3, 4, 5]), (3, [0, 3, 4, 10]), (2, [0, 3, 4]), (1, [0, 3]), (0, [0])], loops := loopsOf [(6, ([0, 3, 4, 5], [])), (3, ([0, 3, 4], []))], boxes := boxesOf [] }
theorem ty32 : (E32).ty = ty := rfl
theorem call32 (f : Nat) (args : List V) (S : St) : (E32).call f args S = callOf ([]) f args S := rfl
theorem nw32 (f : Nat) : (E32).news f = newsOf [] f := rfl
theorem md32 (f : Nat) : (E32).mode f = modeOf [] f := rfl
theorem rw32 : (E32).rows = false := rfl
theorem kp32 (f : Nat) : (E32).keep f = keepOf [(10, [2]), (4, [0, 3, 4]), (9, [0, 3, 4]), (8, [0, 3, 4, 5, 44]), (7, [0, 3, 4, 5]), (6, [0, 3, 4, 5, 27]), (5, [0, 3, 4, 5]), (3, [0, 3, 4, 10]), (2, [0, 3, 4]), (1, [0, 3]), (0, [0])] f := rfl
theorem lp32 (f : Nat) : (E32).loops f = loopsOf [(6, ([0, 3, 4, 5], [])), (3, ([0, 3, 4], []))] f := rfl
theorem bx32 (f : Nat) : (E32).boxes f = boxesOf [] f := rfl
noncomputable def v32 : Spec := fnSpec (E32) 1 Try.f32
theorem vv32 (args : List V) (S : St) : v32 args S = fnSpec (E32) 1 Try.f32 args S := rfl
def u32 := And.intro @vv32 (And.intro @ty32 (And.intro @call32 (And.intro @nw32 (And.intro @md32 (And.intro @rw32 (And.intro @kp32 (And.intro @lp32 (@bx32))))))))
theorem ok32 : SoundAt Try.prog 32 (v32) := soundAt_of mixed tyOk rfl (by intro p hp; simp at hp) (f := 32) (fn := Try.f32) (by kernel_rfl) (by kernel_rfl) (by kernel_rfl) _

/-! 33: stevedore/stevedoreref06.ints (1 parameters) -/
noncomputable def E33 : Env := { ty := ty, call := callOf ([]), news := newsOf [], mode := modeOf [], rows := false, keep := keepOf [(10, [2]), (4, [0, 3, 4]), (9, [0, 3, 4]), (8, [0, 3, 4, 5, 44]), (7, [0, 3, 4, 5]), (6, [0, 3, 4, 5, 27]), (5, [0, 3, 4, 5]), (3, [0, 3, 4, 10]), (2, [0, 3, 4]), (1, [0, 3]), (0, [0])], loops := loopsOf [(6, ([0, 3, 4, 5], [])), (3, ([0, 3, 4], []))], boxes := boxesOf [] }
theorem ty33 : (E33).ty = ty := rfl
theorem call33 (f : Nat) (args : List V) (S : St) : (E33).call f args S = callOf ([]) f args S := rfl
theorem nw33 (f : Nat) : (E33).news f = newsOf [] f := rfl
theorem md33 (f : Nat) : (E33).mode f = modeOf [] f := rfl
theorem rw33 : (E33).rows = false := rfl
theorem kp33 (f : Nat) : (E33).keep f = keepOf [(10, [2]), (4, [0, 3, 4]), (9, [0, 3, 4]), (8, [0, 3, 4, 5, 44]), (7, [0, 3, 4, 5]), (6, [0, 3, 4, 5, 27]), (5, [0, 3, 4, 5]), (3, [0, 3, 4, 10]), (2, [0, 3, 4]), (1, [0, 3]), (0, [0])] f := rfl
theorem lp33 (f : Nat) : (E33).loops f = loopsOf [(6, ([0, 3, 4, 5], [])), (3, ([0, 3, 4], []))] f := rfl
theorem bx33 (f : Nat) : (E33).boxes f = boxesOf [] f := rfl
noncomputable def v33 : Spec := fnSpec (E33) 1 Try.f33
theorem vv33 (args : List V) (S : St) : v33 args S = fnSpec (E33) 1 Try.f33 args S := rfl
def u33 := And.intro @vv33 (And.intro @ty33 (And.intro @call33 (And.intro @nw33 (And.intro @md33 (And.intro @rw33 (And.intro @kp33 (And.intro @lp33 (@bx33))))))))
theorem ok33 : SoundAt Try.prog 33 (v33) := soundAt_of mixed tyOk rfl (by intro p hp; simp at hp) (f := 33) (fn := Try.f33) (by kernel_rfl) (by kernel_rfl) (by kernel_rfl) _

/-! 10: stevedore/stevedoreref06.Of (2 parameters) -/
noncomputable def E10 : Env := { ty := ty, call := callOf ([(21, v21), (31, v31), (32, v32), (33, v33)]), news := newsOf [], mode := modeOf [(21, 1)], rows := false, keep := keepOf [(12, [4]), (11, [4, 5]), (5, [1, 4, 5, 6, 7, 8, 9]), (10, [1, 4, 5, 6, 7, 8, 9]), (9, [1, 4, 5, 6, 7, 8, 9]), (8, [1, 4, 5, 6, 7, 8, 9]), (7, [1, 4, 5, 6, 7, 8, 9]), (6, [1, 4, 5, 6, 7, 8, 9, 27]), (4, [1, 4, 5, 6, 7, 8, 9, 18]), (3, [1, 4, 5, 6, 7, 8, 9]), (2, [1, 4, 5, 6, 7, 8]), (1, [1, 4, 5]), (0, [1, 2, 4])], loops := loopsOf [(4, ([1, 4, 5, 6, 7, 8, 9], [(6, (9, 1)), (7, (3, 1)), (8, (9, 1))]))], boxes := boxesOf [] }
theorem ty10 : (E10).ty = ty := rfl
theorem call10 (f : Nat) (args : List V) (S : St) : (E10).call f args S = callOf ([(21, v21), (31, v31), (32, v32), (33, v33)]) f args S := rfl
theorem nw10 (f : Nat) : (E10).news f = newsOf [] f := rfl
theorem md10 (f : Nat) : (E10).mode f = modeOf [(21, 1)] f := rfl
theorem rw10 : (E10).rows = false := rfl
theorem kp10 (f : Nat) : (E10).keep f = keepOf [(12, [4]), (11, [4, 5]), (5, [1, 4, 5, 6, 7, 8, 9]), (10, [1, 4, 5, 6, 7, 8, 9]), (9, [1, 4, 5, 6, 7, 8, 9]), (8, [1, 4, 5, 6, 7, 8, 9]), (7, [1, 4, 5, 6, 7, 8, 9]), (6, [1, 4, 5, 6, 7, 8, 9, 27]), (4, [1, 4, 5, 6, 7, 8, 9, 18]), (3, [1, 4, 5, 6, 7, 8, 9]), (2, [1, 4, 5, 6, 7, 8]), (1, [1, 4, 5]), (0, [1, 2, 4])] f := rfl
theorem lp10 (f : Nat) : (E10).loops f = loopsOf [(4, ([1, 4, 5, 6, 7, 8, 9], [(6, (9, 1)), (7, (3, 1)), (8, (9, 1))]))] f := rfl
theorem bx10 (f : Nat) : (E10).boxes f = boxesOf [] f := rfl
noncomputable def v10 : Spec := fnSpec (E10) 1 Try.f10
theorem vv10 (args : List V) (S : St) : v10 args S = fnSpec (E10) 1 Try.f10 args S := rfl
def u10 := And.intro @vv10 (And.intro @ty10 (And.intro @call10 (And.intro @nw10 (And.intro @md10 (And.intro @rw10 (And.intro @kp10 (And.intro @lp10 (@bx10))))))))
theorem ok10 : SoundAt Try.prog 10 (v10) := soundAt_of mixed tyOk rfl (by intro p hp; simp only [List.cons_append, List.nil_append, List.mem_cons, List.mem_append, List.not_mem_nil, or_false] at hp; rcases hp with rfl | rfl | rfl | rfl <;> first | exact ok21 | exact ok31 | exact ok32 | exact ok33) (f := 10) (fn := Try.f10) (by kernel_rfl) (by kernel_rfl) (by kernel_rfl) _

/-! 42: stevedore/stevedorebase.SameLabels (2 parameters) -/
noncomputable def E42 : Env := { ty := ty, call := callOf ([]), news := newsOf [], mode := modeOf [], rows := false, keep := keepOf [(8, [4]), (5, [0, 1, 5]), (7, [4]), (6, [0, 1, 5, 25]), (4, [0, 1, 5, 14]), (3, [0, 1, 5]), (2, [4]), (1, [0, 1, 10]), (0, [0, 1])], loops := loopsOf [(4, ([0, 1, 5], []))], boxes := boxesOf [] }
theorem ty42 : (E42).ty = ty := rfl
theorem call42 (f : Nat) (args : List V) (S : St) : (E42).call f args S = callOf ([]) f args S := rfl
theorem nw42 (f : Nat) : (E42).news f = newsOf [] f := rfl
theorem md42 (f : Nat) : (E42).mode f = modeOf [] f := rfl
theorem rw42 : (E42).rows = false := rfl
theorem kp42 (f : Nat) : (E42).keep f = keepOf [(8, [4]), (5, [0, 1, 5]), (7, [4]), (6, [0, 1, 5, 25]), (4, [0, 1, 5, 14]), (3, [0, 1, 5]), (2, [4]), (1, [0, 1, 10]), (0, [0, 1])] f := rfl
theorem lp42 (f : Nat) : (E42).loops f = loopsOf [(4, ([0, 1, 5], []))] f := rfl
theorem bx42 (f : Nat) : (E42).boxes f = boxesOf [] f := rfl
noncomputable def v42 : Spec := fnSpec (E42) 1 Try.f42
theorem vv42 (args : List V) (S : St) : v42 args S = fnSpec (E42) 1 Try.f42 args S := rfl
def u42 := And.intro @vv42 (And.intro @ty42 (And.intro @call42 (And.intro @nw42 (And.intro @md42 (And.intro @rw42 (And.intro @kp42 (And.intro @lp42 (@bx42))))))))
theorem ok42 : SoundAt Try.prog 42 (v42) := soundAt_of mixed tyOk rfl (by intro p hp; simp at hp) (f := 42) (fn := Try.f42) (by kernel_rfl) (by kernel_rfl) (by kernel_rfl) _

/-! 18: stevedore/stevedorebase.SameNode (2 parameters) -/
noncomputable def E18 : Env := { ty := ty, call := callOf ([(42, v42)]), news := newsOf [], mode := modeOf [], rows := false, keep := keepOf [(8, [4]), (5, [2, 3, 5]), (7, [4]), (6, [2, 3, 5, 73]), (4, [2, 3, 5, 60]), (3, [2, 3, 5]), (2, [4]), (1, [2, 3, 55]), (0, [2, 3])], loops := loopsOf [(4, ([2, 3, 5], []))], boxes := boxesOf [] }
theorem ty18 : (E18).ty = ty := rfl
theorem call18 (f : Nat) (args : List V) (S : St) : (E18).call f args S = callOf ([(42, v42)]) f args S := rfl
theorem nw18 (f : Nat) : (E18).news f = newsOf [] f := rfl
theorem md18 (f : Nat) : (E18).mode f = modeOf [] f := rfl
theorem rw18 : (E18).rows = false := rfl
theorem kp18 (f : Nat) : (E18).keep f = keepOf [(8, [4]), (5, [2, 3, 5]), (7, [4]), (6, [2, 3, 5, 73]), (4, [2, 3, 5, 60]), (3, [2, 3, 5]), (2, [4]), (1, [2, 3, 55]), (0, [2, 3])] f := rfl
theorem lp18 (f : Nat) : (E18).loops f = loopsOf [(4, ([2, 3, 5], []))] f := rfl
theorem bx18 (f : Nat) : (E18).boxes f = boxesOf [] f := rfl
noncomputable def v18 : Spec := fnSpec (E18) 1 Try.f18
theorem vv18 (args : List V) (S : St) : v18 args S = fnSpec (E18) 1 Try.f18 args S := rfl
def u18 := And.intro @vv18 (And.intro @ty18 (And.intro @call18 (And.intro @nw18 (And.intro @md18 (And.intro @rw18 (And.intro @kp18 (And.intro @lp18 (@bx18))))))))
theorem ok18 : SoundAt Try.prog 18 (v18) := soundAt_of mixed tyOk rfl (by intro p hp; simp only [List.cons_append, List.nil_append, List.mem_cons, List.mem_append, List.not_mem_nil, or_false] at hp; rcases hp with rfl <;> first | exact ok42) (f := 18) (fn := Try.f18) (by kernel_rfl) (by kernel_rfl) (by kernel_rfl) _

/-! 34: stevedore/stevedorebase.SameTexts (2 parameters) -/
noncomputable def E34 : Env := { ty := ty, call := callOf ([]), news := newsOf [], mode := modeOf [], rows := false, keep := keepOf [(8, [4]), (5, [0, 1, 5]), (7, [4]), (6, [0, 1, 5, 25]), (4, [0, 1, 5, 14]), (3, [0, 1, 5]), (2, [4]), (1, [0, 1, 10]), (0, [0, 1])], loops := loopsOf [(4, ([0, 1, 5], []))], boxes := boxesOf [] }
theorem ty34 : (E34).ty = ty := rfl
theorem call34 (f : Nat) (args : List V) (S : St) : (E34).call f args S = callOf ([]) f args S := rfl
theorem nw34 (f : Nat) : (E34).news f = newsOf [] f := rfl
theorem md34 (f : Nat) : (E34).mode f = modeOf [] f := rfl
theorem rw34 : (E34).rows = false := rfl
theorem kp34 (f : Nat) : (E34).keep f = keepOf [(8, [4]), (5, [0, 1, 5]), (7, [4]), (6, [0, 1, 5, 25]), (4, [0, 1, 5, 14]), (3, [0, 1, 5]), (2, [4]), (1, [0, 1, 10]), (0, [0, 1])] f := rfl
theorem lp34 (f : Nat) : (E34).loops f = loopsOf [(4, ([0, 1, 5], []))] f := rfl
theorem bx34 (f : Nat) : (E34).boxes f = boxesOf [] f := rfl
noncomputable def v34 : Spec := fnSpec (E34) 1 Try.f34
theorem vv34 (args : List V) (S : St) : v34 args S = fnSpec (E34) 1 Try.f34 args S := rfl
def u34 := And.intro @vv34 (And.intro @ty34 (And.intro @call34 (And.intro @nw34 (And.intro @md34 (And.intro @rw34 (And.intro @kp34 (And.intro @lp34 (@bx34))))))))
theorem ok34 : SoundAt Try.prog 34 (v34) := soundAt_of mixed tyOk rfl (by intro p hp; simp at hp) (f := 34) (fn := Try.f34) (by kernel_rfl) (by kernel_rfl) (by kernel_rfl) _

/-! 35: stevedore/stevedorebase.SameInts (2 parameters) -/
noncomputable def E35 : Env := { ty := ty, call := callOf ([]), news := newsOf [], mode := modeOf [], rows := false, keep := keepOf [(8, [4]), (5, [0, 1, 5]), (7, [4]), (6, [0, 1, 5, 25]), (4, [0, 1, 5, 14]), (3, [0, 1, 5]), (2, [4]), (1, [0, 1, 10]), (0, [0, 1])], loops := loopsOf [(4, ([0, 1, 5], []))], boxes := boxesOf [] }
theorem ty35 : (E35).ty = ty := rfl
theorem call35 (f : Nat) (args : List V) (S : St) : (E35).call f args S = callOf ([]) f args S := rfl
theorem nw35 (f : Nat) : (E35).news f = newsOf [] f := rfl
theorem md35 (f : Nat) : (E35).mode f = modeOf [] f := rfl
theorem rw35 : (E35).rows = false := rfl
theorem kp35 (f : Nat) : (E35).keep f = keepOf [(8, [4]), (5, [0, 1, 5]), (7, [4]), (6, [0, 1, 5, 25]), (4, [0, 1, 5, 14]), (3, [0, 1, 5]), (2, [4]), (1, [0, 1, 10]), (0, [0, 1])] f := rfl
theorem lp35 (f : Nat) : (E35).loops f = loopsOf [(4, ([0, 1, 5], []))] f := rfl
theorem bx35 (f : Nat) : (E35).boxes f = boxesOf [] f := rfl
noncomputable def v35 : Spec := fnSpec (E35) 1 Try.f35
theorem vv35 (args : List V) (S : St) : v35 args S = fnSpec (E35) 1 Try.f35 args S := rfl
def u35 := And.intro @vv35 (And.intro @ty35 (And.intro @call35 (And.intro @nw35 (And.intro @md35 (And.intro @rw35 (And.intro @kp35 (And.intro @lp35 (@bx35))))))))
theorem ok35 : SoundAt Try.prog 35 (v35) := soundAt_of mixed tyOk rfl (by intro p hp; simp at hp) (f := 35) (fn := Try.f35) (by kernel_rfl) (by kernel_rfl) (by kernel_rfl) _

/-! 11: stevedore/stevedorebase.SameInfo (2 parameters) -/
noncomputable def E11 : Env := { ty := ty, call := callOf ([(18, v18), (34, v34), (35, v35)]), news := newsOf [], mode := modeOf [(18, 1)], rows := false, keep := keepOf [(1, [4]), (0, [2, 3])], loops := loopsOf [], boxes := boxesOf [] }
theorem ty11 : (E11).ty = ty := rfl
theorem call11 (f : Nat) (args : List V) (S : St) : (E11).call f args S = callOf ([(18, v18), (34, v34), (35, v35)]) f args S := rfl
theorem nw11 (f : Nat) : (E11).news f = newsOf [] f := rfl
theorem md11 (f : Nat) : (E11).mode f = modeOf [(18, 1)] f := rfl
theorem rw11 : (E11).rows = false := rfl
theorem kp11 (f : Nat) : (E11).keep f = keepOf [(1, [4]), (0, [2, 3])] f := rfl
theorem lp11 (f : Nat) : (E11).loops f = loopsOf [] f := rfl
theorem bx11 (f : Nat) : (E11).boxes f = boxesOf [] f := rfl
noncomputable def v11 : Spec := fnSpec (E11) 1 Try.f11
theorem vv11 (args : List V) (S : St) : v11 args S = fnSpec (E11) 1 Try.f11 args S := rfl
def u11 := And.intro @vv11 (And.intro @ty11 (And.intro @call11 (And.intro @nw11 (And.intro @md11 (And.intro @rw11 (And.intro @kp11 (And.intro @lp11 (@bx11))))))))
theorem ok11 : SoundAt Try.prog 11 (v11) := soundAt_of mixed tyOk rfl (by intro p hp; simp only [List.cons_append, List.nil_append, List.mem_cons, List.mem_append, List.not_mem_nil, or_false] at hp; rcases hp with rfl | rfl | rfl <;> first | exact ok18 | exact ok34 | exact ok35) (f := 11) (fn := Try.f11) (by kernel_rfl) (by kernel_rfl) (by kernel_rfl) _

/-! 72: stevedore/quant.Sub (2 parameters) -/
noncomputable def E72 : Env := { ty := ty, call := callOf ([(73, v73)]), news := newsOf [], mode := modeOf [], rows := false, keep := keepOf [(1, [4]), (0, [0, 1])], loops := loopsOf [], boxes := boxesOf [] }
theorem ty72 : (E72).ty = ty := rfl
theorem call72 (f : Nat) (args : List V) (S : St) : (E72).call f args S = callOf ([(73, v73)]) f args S := rfl
theorem nw72 (f : Nat) : (E72).news f = newsOf [] f := rfl
theorem md72 (f : Nat) : (E72).mode f = modeOf [] f := rfl
theorem rw72 : (E72).rows = false := rfl
theorem kp72 (f : Nat) : (E72).keep f = keepOf [(1, [4]), (0, [0, 1])] f := rfl
theorem lp72 (f : Nat) : (E72).loops f = loopsOf [] f := rfl
theorem bx72 (f : Nat) : (E72).boxes f = boxesOf [] f := rfl
noncomputable def v72 : Spec := fnSpec (E72) 1 Try.f72
theorem vv72 (args : List V) (S : St) : v72 args S = fnSpec (E72) 1 Try.f72 args S := rfl
def u72 := And.intro @vv72 (And.intro @ty72 (And.intro @call72 (And.intro @nw72 (And.intro @md72 (And.intro @rw72 (And.intro @kp72 (And.intro @lp72 (@bx72))))))))
theorem ok72 : SoundAt Try.prog 72 (v72) := soundAt_of mixed tyOk rfl (by intro p hp; simp only [List.cons_append, List.nil_append, List.mem_cons, List.mem_append, List.not_mem_nil, or_false] at hp; rcases hp with rfl <;> first | exact ok73) (f := 72) (fn := Try.f72) (by kernel_rfl) (by kernel_rfl) (by kernel_rfl) _

/-! 59: (stevedore/quant.vector).minus (2 parameters) -/
noncomputable def E59 : Env := { ty := ty, call := callOf ([(72, v72)]), news := newsOf [], mode := modeOf [], rows := false, keep := keepOf [(6, [4]), (5, [2, 3, 4, 6]), (4, [2, 3, 4, 6]), (3, [2, 3, 4, 5, 6]), (2, [2, 3, 4, 6, 7]), (1, [2, 3, 4, 6]), (0, [2, 3, 4])], loops := loopsOf [(2, ([2, 3, 4, 6], []))], boxes := boxesOf [] }
theorem ty59 : (E59).ty = ty := rfl
theorem call59 (f : Nat) (args : List V) (S : St) : (E59).call f args S = callOf ([(72, v72)]) f args S := rfl
theorem nw59 (f : Nat) : (E59).news f = newsOf [] f := rfl
theorem md59 (f : Nat) : (E59).mode f = modeOf [] f := rfl
theorem rw59 : (E59).rows = false := rfl
theorem kp59 (f : Nat) : (E59).keep f = keepOf [(6, [4]), (5, [2, 3, 4, 6]), (4, [2, 3, 4, 6]), (3, [2, 3, 4, 5, 6]), (2, [2, 3, 4, 6, 7]), (1, [2, 3, 4, 6]), (0, [2, 3, 4])] f := rfl
theorem lp59 (f : Nat) : (E59).loops f = loopsOf [(2, ([2, 3, 4, 6], []))] f := rfl
theorem bx59 (f : Nat) : (E59).boxes f = boxesOf [] f := rfl
noncomputable def v59 : Spec := fnSpec (E59) 1 Try.f59
theorem vv59 (args : List V) (S : St) : v59 args S = fnSpec (E59) 1 Try.f59 args S := rfl
def u59 := And.intro @vv59 (And.intro @ty59 (And.intro @call59 (And.intro @nw59 (And.intro @md59 (And.intro @rw59 (And.intro @kp59 (And.intro @lp59 (@bx59))))))))
theorem ok59 : SoundAt Try.prog 59 (v59) := soundAt_of mixed tyOk rfl (by intro p hp; simp only [List.cons_append, List.nil_append, List.mem_cons, List.mem_append, List.not_mem_nil, or_false] at hp; rcases hp with rfl <;> first | exact ok72) (f := 59) (fn := Try.f59) (by kernel_rfl) (by kernel_rfl) (by kernel_rfl) _

/-! 36: stevedore/quant.Minus (2 parameters) -/
noncomputable def E36 : Env := { ty := ty, call := callOf ([(45, v45 ([(59, v59)])), (59, v59)]), news := newsOf [], mode := modeOf [], rows := false, keep := keepOf [(1, [4]), (0, [2, 3, 4])], loops := loopsOf [], boxes := boxesOf [] }
theorem ty36 : (E36).ty = ty := rfl
theorem call36 (f : Nat) (args : List V) (S : St) : (E36).call f args S = callOf ([(45, v45 ([(59, v59)])), (59, v59)]) f args S := rfl
theorem nw36 (f : Nat) : (E36).news f = newsOf [] f := rfl
theorem md36 (f : Nat) : (E36).mode f = modeOf [] f := rfl
theorem rw36 : (E36).rows = false := rfl
theorem kp36 (f : Nat) : (E36).keep f = keepOf [(1, [4]), (0, [2, 3, 4])] f := rfl
theorem lp36 (f : Nat) : (E36).loops f = loopsOf [] f := rfl
theorem bx36 (f : Nat) : (E36).boxes f = boxesOf [] f := rfl
noncomputable def v36 : Spec := fnSpec (E36) 1 Try.f36
theorem vv36 (args : List V) (S : St) : v36 args S = fnSpec (E36) 1 Try.f36 args S := rfl
def u36 := And.intro @vv36 (And.intro @ty36 (And.intro @call36 (And.intro @nw36 (And.intro @md36 (And.intro @rw36 (And.intro @kp36 (And.intro @lp36 (@bx36))))))))
theorem ok36 : SoundAt Try.prog 36 (v36) := soundAt_of mixed tyOk rfl (by intro p hp; simp only [List.cons_append, List.nil_append, List.mem_cons, List.mem_append, List.not_mem_nil, or_false] at hp; rcases hp with rfl | rfl <;> first | exact ok45 _ (fun p hp => by simp only [List.cons_append, List.nil_append, List.mem_cons, List.mem_append, List.not_mem_nil, or_false] at hp; rcases hp with rfl <;> first | exact ok59) | exact ok59) (f := 36) (fn := Try.f36) (by kernel_rfl) (by kernel_rfl) (by kernel_rfl) _

/-! 12: stevedore/info.Free (1 parameters) -/
noncomputable def E12 : Env := { ty := ty, call := callOf ([(36, v36)]), news := newsOf [], mode := modeOf [], rows := false, keep := keepOf [(1, [2]), (0, [1, 2])], loops := loopsOf [], boxes := boxesOf [] }
theorem ty12 : (E12).ty = ty := rfl
theorem call12 (f : Nat) (args : List V) (S : St) : (E12).call f args S = callOf ([(36, v36)]) f args S := rfl
theorem nw12 (f : Nat) : (E12).news f = newsOf [] f := rfl
theorem md12 (f : Nat) : (E12).mode f = modeOf [] f := rfl
theorem rw12 : (E12).rows = false := rfl
theorem kp12 (f : Nat) : (E12).keep f = keepOf [(1, [2]), (0, [1, 2])] f := rfl
theorem lp12 (f : Nat) : (E12).loops f = loopsOf [] f := rfl
theorem bx12 (f : Nat) : (E12).boxes f = boxesOf [] f := rfl
noncomputable def v12 : Spec := fnSpec (E12) 1 Try.f12
theorem vv12 (args : List V) (S : St) : v12 args S = fnSpec (E12) 1 Try.f12 args S := rfl
def u12 := And.intro @vv12 (And.intro @ty12 (And.intro @call12 (And.intro @nw12 (And.intro @md12 (And.intro @rw12 (And.intro @kp12 (And.intro @lp12 (@bx12))))))))
theorem ok12 : SoundAt Try.prog 12 (v12) := soundAt_of mixed tyOk rfl (by intro p hp; simp only [List.cons_append, List.nil_append, List.mem_cons, List.mem_append, List.not_mem_nil, or_false] at hp; rcases hp with rfl <;> first | exact ok36) (f := 12) (fn := Try.f12) (by kernel_rfl) (by kernel_rfl) (by kernel_rfl) _

/-! 60: stevedore/stevedoreref01.Sub (2 parameters) -/
noncomputable def E60 : Env := { ty := ty, call := callOf ([(71, v71)]), news := newsOf [], mode := modeOf [], rows := false, keep := keepOf [(1, [4]), (0, [0, 1])], loops := loopsOf [], boxes := boxesOf [] }
theorem ty60 : (E60).ty = ty := rfl
theorem call60 (f : Nat) (args : List V) (S : St) : (E60).call f args S = callOf ([(71, v71)]) f args S := rfl
theorem nw60 (f : Nat) : (E60).news f = newsOf [] f := rfl
theorem md60 (f : Nat) : (E60).mode f = modeOf [] f := rfl
theorem rw60 : (E60).rows = false := rfl
theorem kp60 (f : Nat) : (E60).keep f = keepOf [(1, [4]), (0, [0, 1])] f := rfl
theorem lp60 (f : Nat) : (E60).loops f = loopsOf [] f := rfl
theorem bx60 (f : Nat) : (E60).boxes f = boxesOf [] f := rfl
noncomputable def v60 : Spec := fnSpec (E60) 1 Try.f60
theorem vv60 (args : List V) (S : St) : v60 args S = fnSpec (E60) 1 Try.f60 args S := rfl
def u60 := And.intro @vv60 (And.intro @ty60 (And.intro @call60 (And.intro @nw60 (And.intro @md60 (And.intro @rw60 (And.intro @kp60 (And.intro @lp60 (@bx60))))))))
theorem ok60 : SoundAt Try.prog 60 (v60) := soundAt_of mixed tyOk rfl (by intro p hp; simp only [List.cons_append, List.nil_append, List.mem_cons, List.mem_append, List.not_mem_nil, or_false] at hp; rcases hp with rfl <;> first | exact ok71) (f := 60) (fn := Try.f60) (by kernel_rfl) (by kernel_rfl) (by kernel_rfl) _

/-! 37: stevedore/stevedoreref01.Minus (2 parameters) -/
noncomputable def E37 : Env := { ty := ty, call := callOf ([(60, v60)]), news := newsOf [], mode := modeOf [], rows := false, keep := keepOf [(1, [4]), (0, [2, 3, 4])], loops := loopsOf [], boxes := boxesOf [] }
theorem ty37 : (E37).ty = ty := rfl
theorem call37 (f : Nat) (args : List V) (S : St) : (E37).call f args S = callOf ([(60, v60)]) f args S := rfl
theorem nw37 (f : Nat) : (E37).news f = newsOf [] f := rfl
theorem md37 (f : Nat) : (E37).mode f = modeOf [] f := rfl
theorem rw37 : (E37).rows = false := rfl
theorem kp37 (f : Nat) : (E37).keep f = keepOf [(1, [4]), (0, [2, 3, 4])] f := rfl
theorem lp37 (f : Nat) : (E37).loops f = loopsOf [] f := rfl
theorem bx37 (f : Nat) : (E37).boxes f = boxesOf [] f := rfl
noncomputable def v37 : Spec := fnSpec (E37) 1 Try.f37
theorem vv37 (args : List V) (S : St) : v37 args S = fnSpec (E37) 1 Try.f37 args S := rfl
def u37 := And.intro @vv37 (And.intro @ty37 (And.intro @call37 (And.intro @nw37 (And.intro @md37 (And.intro @rw37 (And.intro @kp37 (And.intro @lp37 (@bx37))))))))
theorem ok37 : SoundAt Try.prog 37 (v37) := soundAt_of mixed tyOk rfl (by intro p hp; simp only [List.cons_append, List.nil_append, List.mem_cons, List.mem_append, List.not_mem_nil, or_false] at hp; rcases hp with rfl <;> first | exact ok60) (f := 37) (fn := Try.f37) (by kernel_rfl) (by kernel_rfl) (by kernel_rfl) _

/-! 13: stevedore/stevedoreref06.Free (1 parameters) -/
noncomputable def E13 : Env := { ty := ty, call := callOf ([(37, v37)]), news := newsOf [], mode := modeOf [], rows := false, keep := keepOf [(1, [2]), (0, [1, 2])], loops := loopsOf [], boxes := boxesOf [] }
theorem ty13 : (E13).ty = ty := rfl
theorem call13 (f : Nat) (args : List V) (S : St) : (E13).call f args S = callOf ([(37, v37)]) f args S := rfl
theorem nw13 (f : Nat) : (E13).news f = newsOf [] f := rfl
theorem md13 (f : Nat) : (E13).mode f = modeOf [] f := rfl
theorem rw13 : (E13).rows = false := rfl
theorem kp13 (f : Nat) : (E13).keep f = keepOf [(1, [2]), (0, [1, 2])] f := rfl
theorem lp13 (f : Nat) : (E13).loops f = loopsOf [] f := rfl
theorem bx13 (f : Nat) : (E13).boxes f = boxesOf [] f := rfl
noncomputable def v13 : Spec := fnSpec (E13) 1 Try.f13
theorem vv13 (args : List V) (S : St) : v13 args S = fnSpec (E13) 1 Try.f13 args S := rfl
def u13 := And.intro @vv13 (And.intro @ty13 (And.intro @call13 (And.intro @nw13 (And.intro @md13 (And.intro @rw13 (And.intro @kp13 (And.intro @lp13 (@bx13))))))))
theorem ok13 : SoundAt Try.prog 13 (v13) := soundAt_of mixed tyOk rfl (by intro p hp; simp only [List.cons_append, List.nil_append, List.mem_cons, List.mem_append, List.not_mem_nil, or_false] at hp; rcases hp with rfl <;> first | exact ok37) (f := 13) (fn := Try.f13) (by kernel_rfl) (by kernel_rfl) (by kernel_rfl) _

/-! 62: slices.Index[[]int,int] (2 parameters) -/
noncomputable def E62 : Env := { ty := ty, call := callOf ([]), news := newsOf [], mode := modeOf [], rows := false, keep := keepOf [(7, [4]), (6, [0, 1, 7, 8]), (5, [4]), (4, [0, 1, 5, 7, 8, 16]), (3, [0, 1, 5, 7, 8]), (2, [0, 1, 7, 8, 9]), (1, [0, 1, 7, 8]), (0, [0, 1])], loops := loopsOf [(2, ([0, 1, 7, 8], []))], boxes := boxesOf [] }
theorem ty62 : (E62).ty = ty := rfl
theorem call62 (f : Nat) (args : List V) (S : St) : (E62).call f args S = callOf ([]) f args S := rfl
theorem nw62 (f : Nat) : (E62).news f = newsOf [] f := rfl
theorem md62 (f : Nat) : (E62).mode f = modeOf [] f := rfl
theorem rw62 : (E62).rows = false := rfl
theorem kp62 (f : Nat) : (E62).keep f = keepOf [(7, [4]), (6, [0, 1, 7, 8]), (5, [4]), (4, [0, 1, 5, 7, 8, 16]), (3, [0, 1, 5, 7, 8]), (2, [0, 1, 7, 8, 9]), (1, [0, 1, 7, 8]), (0, [0, 1])] f := rfl
theorem lp62 (f : Nat) : (E62).loops f = loopsOf [(2, ([0, 1, 7, 8], []))] f := rfl
theorem bx62 (f : Nat) : (E62).boxes f = boxesOf [] f := rfl
noncomputable def v62 : Spec := fnSpec (E62) 1 Try.f62
theorem vv62 (args : List V) (S : St) : v62 args S = fnSpec (E62) 1 Try.f62 args S := rfl
def u62 := And.intro @vv62 (And.intro @ty62 (And.intro @call62 (And.intro @nw62 (And.intro @md62 (And.intro @rw62 (And.intro @kp62 (And.intro @lp62 (@bx62))))))))
theorem ok62 : SoundAt Try.prog 62 (v62) := soundAt_of mixed tyOk rfl (by intro p hp; simp at hp) (f := 62) (fn := Try.f62) (by kernel_rfl) (by kernel_rfl) (by kernel_rfl) _

/-! 40: slices.Contains[[]int,int] (2 parameters) -/
noncomputable def E40 : Env := { ty := ty, call := callOf ([(62, v62)]), news := newsOf [], mode := modeOf [], rows := false, keep := keepOf [(1, [4]), (0, [0, 1])], loops := loopsOf [], boxes := boxesOf [] }
theorem ty40 : (E40).ty = ty := rfl
theorem call40 (f : Nat) (args : List V) (S : St) : (E40).call f args S = callOf ([(62, v62)]) f args S := rfl
theorem nw40 (f : Nat) : (E40).news f = newsOf [] f := rfl
theorem md40 (f : Nat) : (E40).mode f = modeOf [] f := rfl
theorem rw40 : (E40).rows = false := rfl
theorem kp40 (f : Nat) : (E40).keep f = keepOf [(1, [4]), (0, [0, 1])] f := rfl
theorem lp40 (f : Nat) : (E40).loops f = loopsOf [] f := rfl
theorem bx40 (f : Nat) : (E40).boxes f = boxesOf [] f := rfl
noncomputable def v40 : Spec := fnSpec (E40) 1 Try.f40
theorem vv40 (args : List V) (S : St) : v40 args S = fnSpec (E40) 1 Try.f40 args S := rfl
def u40 := And.intro @vv40 (And.intro @ty40 (And.intro @call40 (And.intro @nw40 (And.intro @md40 (And.intro @rw40 (And.intro @kp40 (And.intro @lp40 (@bx40))))))))
theorem ok40 : SoundAt Try.prog 40 (v40) := soundAt_of mixed tyOk rfl (by intro p hp; simp only [List.cons_append, List.nil_append, List.mem_cons, List.mem_append, List.not_mem_nil, or_false] at hp; rcases hp with rfl <;> first | exact ok62) (f := 40) (fn := Try.f40) (by kernel_rfl) (by kernel_rfl) (by kernel_rfl) _

/-! 39: stevedore/info.Clash$1 (1 parameters) -/
noncomputable def E39 : Env := { ty := ty, call := callOf ([(40, v40)]), news := newsOf [], mode := modeOf [(40, 1)], rows := false, keep := keepOf [(1, [3]), (0, [0, 1])], loops := loopsOf [], boxes := boxesOf [] }
theorem ty39 : (E39).ty = ty := rfl
theorem call39 (f : Nat) (args : List V) (S : St) : (E39).call f args S = callOf ([(40, v40)]) f args S := rfl
theorem nw39 (f : Nat) : (E39).news f = newsOf [] f := rfl
theorem md39 (f : Nat) : (E39).mode f = modeOf [(40, 1)] f := rfl
theorem rw39 : (E39).rows = false := rfl
theorem kp39 (f : Nat) : (E39).keep f = keepOf [(1, [3]), (0, [0, 1])] f := rfl
theorem lp39 (f : Nat) : (E39).loops f = loopsOf [] f := rfl
theorem bx39 (f : Nat) : (E39).boxes f = boxesOf [] f := rfl
noncomputable def v39 : Spec := fnSpec (E39) 1 Try.f39
theorem vv39 (args : List V) (S : St) : v39 args S = fnSpec (E39) 1 Try.f39 args S := rfl
def u39 := And.intro @vv39 (And.intro @ty39 (And.intro @call39 (And.intro @nw39 (And.intro @md39 (And.intro @rw39 (And.intro @kp39 (And.intro @lp39 (@bx39))))))))
theorem ok39 : SoundAt Try.prog 39 (v39) := soundAt_of mixed tyOk rfl (by intro p hp; simp only [List.cons_append, List.nil_append, List.mem_cons, List.mem_append, List.not_mem_nil, or_false] at hp; rcases hp with rfl <;> first | exact ok40) (f := 39) (fn := Try.f39) (by kernel_rfl) (by kernel_rfl) (by kernel_rfl) _

/-! 61: slices.IndexFunc[[]int,int] (2 parameters) -/
noncomputable def E61 (cl : List (Nat × Spec)) : Env := { ty := ty, call := callOf ([] ++ cl), news := newsOf [], mode := modeOf [], rows := false, keep := keepOf [(7, [4]), (6, [0, 1, 7, 8]), (5, [4]), (4, [0, 1, 5, 7, 8, 16]), (3, [0, 1, 5, 7, 8]), (2, [0, 1, 7, 8, 9]), (1, [0, 1, 7, 8]), (0, [0, 1])], loops := loopsOf [(2, ([0, 1, 7, 8], []))], boxes := boxesOf [] }
theorem ty61 (cl : List (Nat × Spec)) : (E61 cl).ty = ty := rfl
theorem call61 (cl : List (Nat × Spec)) (f : Nat) (args : List V) (S : St) : (E61 cl).call f args S = callOf ([] ++ cl) f args S := rfl
theorem nw61 (cl : List (Nat × Spec)) (f : Nat) : (E61 cl).news f = newsOf [] f := rfl
theorem md61 (cl : List (Nat × Spec)) (f : Nat) : (E61 cl).mode f = modeOf [] f := rfl
theorem rw61 (cl : List (Nat × Spec)) : (E61 cl).rows = false := rfl
theorem kp61 (cl : List (Nat × Spec)) (f : Nat) : (E61 cl).keep f = keepOf [(7, [4]), (6, [0, 1, 7, 8]), (5, [4]), (4, [0, 1, 5, 7, 8, 16]), (3, [0, 1, 5, 7, 8]), (2, [0, 1, 7, 8, 9]), (1, [0, 1, 7, 8]), (0, [0, 1])] f := rfl
theorem lp61 (cl : List (Nat × Spec)) (f : Nat) : (E61 cl).loops f = loopsOf [(2, ([0, 1, 7, 8], []))] f := rfl
theorem bx61 (cl : List (Nat × Spec)) (f : Nat) : (E61 cl).boxes f = boxesOf [] f := rfl
noncomputable def v61 (cl : List (Nat × Spec)) : Spec := fnSpec (E61 cl) 1 Try.f61
theorem vv61 (cl : List (Nat × Spec)) (args : List V) (S : St) : v61 cl args S = fnSpec (E61 cl) 1 Try.f61 args S := rfl
def u61 := And.intro @vv61 (And.intro @ty61 (And.intro @call61 (And.intro @nw61 (And.intro @md61 (And.intro @rw61 (And.intro @kp61 (And.intro @lp61 (@bx61))))))))
theorem ok61 (cl : List (Nat × Spec)) (hcl : ∀ p ∈ cl, SoundAt Try.prog p.1 p.2) : SoundAt Try.prog 61 (v61 cl) := soundAt_of mixed tyOk rfl (by intro p hp; simp only [List.cons_append, List.nil_append, List.mem_cons, List.mem_append, List.not_mem_nil, or_false] at hp; rcases hp with hp <;> first | exact hcl p hp) (f := 61) (fn := Try.f61) (by kernel_rfl) (by kernel_rfl) (by kernel_rfl) _

/-! 38: slices.ContainsFunc[[]int,int] (2 parameters) -/
noncomputable def E38 (cl : List (Nat × Spec)) : Env := { ty := ty, call := callOf ([(61, v61 cl)] ++ cl), news := newsOf [], mode := modeOf [], rows := false, keep := keepOf [(1, [4]), (0, [0, 1])], loops := loopsOf [], boxes := boxesOf [] }
theorem ty38 (cl : List (Nat × Spec)) : (E38 cl).ty = ty := rfl
theorem call38 (cl : List (Nat × Spec)) (f : Nat) (args : List V) (S : St) : (E38 cl).call f args S = callOf ([(61, v61 cl)] ++ cl) f args S := rfl
theorem nw38 (cl : List (Nat × Spec)) (f : Nat) : (E38 cl).news f = newsOf [] f := rfl
theorem md38 (cl : List (Nat × Spec)) (f : Nat) : (E38 cl).mode f = modeOf [] f := rfl
theorem rw38 (cl : List (Nat × Spec)) : (E38 cl).rows = false := rfl
theorem kp38 (cl : List (Nat × Spec)) (f : Nat) : (E38 cl).keep f = keepOf [(1, [4]), (0, [0, 1])] f := rfl
theorem lp38 (cl : List (Nat × Spec)) (f : Nat) : (E38 cl).loops f = loopsOf [] f := rfl
theorem bx38 (cl : List (Nat × Spec)) (f : Nat) : (E38 cl).boxes f = boxesOf [] f := rfl
noncomputable def v38 (cl : List (Nat × Spec)) : Spec := fnSpec (E38 cl) 1 Try.f38
theorem vv38 (cl : List (Nat × Spec)) (args : List V) (S : St) : v38 cl args S = fnSpec (E38 cl) 1 Try.f38 args S := rfl
def u38 := And.intro @vv38 (And.intro @ty38 (And.intro @call38 (And.intro @nw38 (And.intro @md38 (And.intro @rw38 (And.intro @kp38 (And.intro @lp38 (@bx38))))))))
theorem ok38 (cl : List (Nat × Spec)) (hcl : ∀ p ∈ cl, SoundAt Try.prog p.1 p.2) : SoundAt Try.prog 38 (v38 cl) := soundAt_of mixed tyOk rfl (by intro p hp; simp only [List.cons_append, List.nil_append, List.mem_cons, List.mem_append, List.not_mem_nil, or_false] at hp; rcases hp with rfl | hp <;> first | exact ok61 cl hcl | exact hcl p hp) (f := 38) (fn := Try.f38) (by kernel_rfl) (by kernel_rfl) (by kernel_rfl) _

/-! 14: stevedore/info.Clash (2 parameters) -/
noncomputable def E14 : Env := { ty := ty, call := callOf ([(39, v39), (38, v38 ([(39, v39)]))]), news := newsOf [], mode := modeOf [], rows := false, keep := keepOf [(1, [4]), (0, [2, 3])], loops := loopsOf [], boxes := boxesOf [] }
theorem ty14 : (E14).ty = ty := rfl
theorem call14 (f : Nat) (args : List V) (S : St) : (E14).call f args S = callOf ([(39, v39), (38, v38 ([(39, v39)]))]) f args S := rfl
theorem nw14 (f : Nat) : (E14).news f = newsOf [] f := rfl
theorem md14 (f : Nat) : (E14).mode f = modeOf [] f := rfl
theorem rw14 : (E14).rows = false := rfl
theorem kp14 (f : Nat) : (E14).keep f = keepOf [(1, [4]), (0, [2, 3])] f := rfl
theorem lp14 (f : Nat) : (E14).loops f = loopsOf [] f := rfl
theorem bx14 (f : Nat) : (E14).boxes f = boxesOf [] f := rfl
noncomputable def v14 : Spec := fnSpec (E14) 1 Try.f14
theorem vv14 (args : List V) (S : St) : v14 args S = fnSpec (E14) 1 Try.f14 args S := rfl
def u14 := And.intro @vv14 (And.intro @ty14 (And.intro @call14 (And.intro @nw14 (And.intro @md14 (And.intro @rw14 (And.intro @kp14 (And.intro @lp14 (@bx14))))))))
theorem ok14 : SoundAt Try.prog 14 (v14) := soundAt_of mixed tyOk rfl (by intro p hp; simp only [List.cons_append, List.nil_append, List.mem_cons, List.mem_append, List.not_mem_nil, or_false] at hp; rcases hp with rfl | rfl <;> first | exact ok39 | exact ok38 _ (fun p hp => by simp only [List.cons_append, List.nil_append, List.mem_cons, List.mem_append, List.not_mem_nil, or_false] at hp; rcases hp with rfl <;> first | exact ok39)) (f := 14) (fn := Try.f14) (by kernel_rfl) (by kernel_rfl) (by kernel_rfl) _

/-! 41: stevedore/stevedorebase.HasInt (2 parameters) -/
noncomputable def E41 : Env := { ty := ty, call := callOf ([]), news := newsOf [], mode := modeOf [], rows := false, keep := keepOf [(6, [4]), (3, [0, 1, 5]), (5, [4]), (4, [0, 1, 5, 17]), (2, [0, 1, 5, 9]), (1, [0, 1, 5]), (0, [0, 1])], loops := loopsOf [(2, ([0, 1, 5], []))], boxes := boxesOf [] }
theorem ty41 : (E41).ty = ty := rfl
theorem call41 (f : Nat) (args : List V) (S : St) : (E41).call f args S = callOf ([]) f args S := rfl
theorem nw41 (f : Nat) : (E41).news f = newsOf [] f := rfl
theorem md41 (f : Nat) : (E41).mode f = modeOf [] f := rfl
theorem rw41 : (E41).rows = false := rfl
theorem kp41 (f : Nat) : (E41).keep f = keepOf [(6, [4]), (3, [0, 1, 5]), (5, [4]), (4, [0, 1, 5, 17]), (2, [0, 1, 5, 9]), (1, [0, 1, 5]), (0, [0, 1])] f := rfl
theorem lp41 (f : Nat) : (E41).loops f = loopsOf [(2, ([0, 1, 5], []))] f := rfl
theorem bx41 (f : Nat) : (E41).boxes f = boxesOf [] f := rfl
noncomputable def v41 : Spec := fnSpec (E41) 1 Try.f41
theorem vv41 (args : List V) (S : St) : v41 args S = fnSpec (E41) 1 Try.f41 args S := rfl
def u41 := And.intro @vv41 (And.intro @ty41 (And.intro @call41 (And.intro @nw41 (And.intro @md41 (And.intro @rw41 (And.intro @kp41 (And.intro @lp41 (@bx41))))))))
theorem ok41 : SoundAt Try.prog 41 (v41) := soundAt_of mixed tyOk rfl (by intro p hp; simp at hp) (f := 41) (fn := Try.f41) (by kernel_rfl) (by kernel_rfl) (by kernel_rfl) _

/-! 15: stevedore/stevedoreref06.Clash (2 parameters) -/
noncomputable def E15 : Env := { ty := ty, call := callOf ([(41, v41)]), news := newsOf [], mode := modeOf [(41, 1)], rows := false, keep := keepOf [(6, [4]), (3, [2, 3, 5]), (5, [4]), (4, [2, 3, 5, 20]), (2, [2, 3, 5, 10]), (1, [2, 3, 5]), (0, [2, 3])], loops := loopsOf [(2, ([2, 3, 5], []))], boxes := boxesOf [] }
theorem ty15 : (E15).ty = ty := rfl
theorem call15 (f : Nat) (args : List V) (S : St) : (E15).call f args S = callOf ([(41, v41)]) f args S := rfl
theorem nw15 (f : Nat) : (E15).news f = newsOf [] f := rfl
theorem md15 (f : Nat) : (E15).mode f = modeOf [(41, 1)] f := rfl
theorem rw15 : (E15).rows = false := rfl
theorem kp15 (f : Nat) : (E15).keep f = keepOf [(6, [4]), (3, [2, 3, 5]), (5, [4]), (4, [2, 3, 5, 20]), (2, [2, 3, 5, 10]), (1, [2, 3, 5]), (0, [2, 3])] f := rfl
theorem lp15 (f : Nat) : (E15).loops f = loopsOf [(2, ([2, 3, 5], []))] f := rfl
theorem bx15 (f : Nat) : (E15).boxes f = boxesOf [] f := rfl
noncomputable def v15 : Spec := fnSpec (E15) 1 Try.f15
theorem vv15 (args : List V) (S : St) : v15 args S = fnSpec (E15) 1 Try.f15 args S := rfl
def u15 := And.intro @vv15 (And.intro @ty15 (And.intro @call15 (And.intro @nw15 (And.intro @md15 (And.intro @rw15 (And.intro @kp15 (And.intro @lp15 (@bx15))))))))
theorem ok15 : SoundAt Try.prog 15 (v15) := soundAt_of mixed tyOk rfl (by intro p hp; simp only [List.cons_append, List.nil_append, List.mem_cons, List.mem_append, List.not_mem_nil, or_false] at hp; rcases hp with rfl <;> first | exact ok41) (f := 15) (fn := Try.f15) (by kernel_rfl) (by kernel_rfl) (by kernel_rfl) _

/-! 16: stevedore/stevedorelaw06.spoil (1 parameters) -/
noncomputable def E16 : Env := { ty := ty, call := callOf ([]), news := newsOf [], mode := modeOf [], rows := false, keep := keepOf [(11, [1, 4]), (12, [1, 4]), (10, [1, 4, 31]), (9, [1, 4]), (7, [1, 3]), (8, [1, 3]), (6, [1, 3, 20]), (5, [1, 3]), (3, [1, 2]), (4, [1, 2]), (2, [1, 2, 9]), (1, [1, 2]), (0, [1])], loops := loopsOf [(10, ([1, 4], [])), (6, ([1, 3], [])), (2, ([1, 2], []))], boxes := boxesOf [] }
theorem ty16 : (E16).ty = ty := rfl
theorem call16 (f : Nat) (args : List V) (S : St) : (E16).call f args S = callOf ([]) f args S := rfl
theorem nw16 (f : Nat) : (E16).news f = newsOf [] f := rfl
theorem md16 (f : Nat) : (E16).mode f = modeOf [] f := rfl
theorem rw16 : (E16).rows = false := rfl
theorem kp16 (f : Nat) : (E16).keep f = keepOf [(11, [1, 4]), (12, [1, 4]), (10, [1, 4, 31]), (9, [1, 4]), (7, [1, 3]), (8, [1, 3]), (6, [1, 3, 20]), (5, [1, 3]), (3, [1, 2]), (4, [1, 2]), (2, [1, 2, 9]), (1, [1, 2]), (0, [1])] f := rfl
theorem lp16 (f : Nat) : (E16).loops f = loopsOf [(10, ([1, 4], [])), (6, ([1, 3], [])), (2, ([1, 2], []))] f := rfl
theorem bx16 (f : Nat) : (E16).boxes f = boxesOf [] f := rfl
noncomputable def v16 : Spec := fnSpec (E16) 1 Try.f16
theorem vv16 (args : List V) (S : St) : v16 args S = fnSpec (E16) 1 Try.f16 args S := rfl
def u16 := And.intro @vv16 (And.intro @ty16 (And.intro @call16 (And.intro @nw16 (And.intro @md16 (And.intro @rw16 (And.intro @kp16 (And.intro @lp16 (@bx16))))))))
theorem ok16 : SoundAt Try.prog 16 (v16) := soundAt_of mixed tyOk rfl (by intro p hp; simp at hp) (f := 16) (fn := Try.f16) (by kernel_rfl) (by kernel_rfl) (by kernel_rfl) _

/-! 43: stevedore/stevedorebase.SameReqs (2 parameters) -/
noncomputable def E43 : Env := { ty := ty, call := callOf ([(34, v34)]), news := newsOf [], mode := modeOf [], rows := false, keep := keepOf [(8, [4]), (5, [0, 1, 5]), (7, [4]), (6, [0, 1, 5, 54]), (4, [0, 1, 5, 14]), (3, [0, 1, 5]), (2, [4]), (1, [0, 1, 10]), (0, [0, 1])], loops := loopsOf [(4, ([0, 1, 5], []))], boxes := boxesOf [] }
theorem ty43 : (E43).ty = ty := rfl
theorem call43 (f : Nat) (args : List V) (S : St) : (E43).call f args S = callOf ([(34, v34)]) f args S := rfl
theorem nw43 (f : Nat) : (E43).news f = newsOf [] f := rfl
theorem md43 (f : Nat) : (E43).mode f = modeOf [] f := rfl
theorem rw43 : (E43).rows = false := rfl
theorem kp43 (f : Nat) : (E43).keep f = keepOf [(8, [4]), (5, [0, 1, 5]), (7, [4]), (6, [0, 1, 5, 54]), (4, [0, 1, 5, 14]), (3, [0, 1, 5]), (2, [4]), (1, [0, 1, 10]), (0, [0, 1])] f := rfl
theorem lp43 (f : Nat) : (E43).loops f = loopsOf [(4, ([0, 1, 5], []))] f := rfl
theorem bx43 (f : Nat) : (E43).boxes f = boxesOf [] f := rfl
noncomputable def v43 : Spec := fnSpec (E43) 1 Try.f43
theorem vv43 (args : List V) (S : St) : v43 args S = fnSpec (E43) 1 Try.f43 args S := rfl
def u43 := And.intro @vv43 (And.intro @ty43 (And.intro @call43 (And.intro @nw43 (And.intro @md43 (And.intro @rw43 (And.intro @kp43 (And.intro @lp43 (@bx43))))))))
theorem ok43 : SoundAt Try.prog 43 (v43) := soundAt_of mixed tyOk rfl (by intro p hp; simp only [List.cons_append, List.nil_append, List.mem_cons, List.mem_append, List.not_mem_nil, or_false] at hp; rcases hp with rfl <;> first | exact ok34) (f := 43) (fn := Try.f43) (by kernel_rfl) (by kernel_rfl) (by kernel_rfl) _

/-! 44: stevedore/stevedorebase.sameTerms (2 parameters) -/
noncomputable def E44 : Env := { ty := ty, call := callOf ([(43, v43)]), news := newsOf [], mode := modeOf [], rows := false, keep := keepOf [(8, [4]), (5, [0, 1, 5]), (7, [4]), (6, [0, 1, 5, 41]), (4, [0, 1, 5, 14]), (3, [0, 1, 5]), (2, [4]), (1, [0, 1, 10]), (0, [0, 1])], loops := loopsOf [(4, ([0, 1, 5], []))], boxes := boxesOf [] }
theorem ty44 : (E44).ty = ty := rfl
theorem call44 (f : Nat) (args : List V) (S : St) : (E44).call f args S = callOf ([(43, v43)]) f args S := rfl
theorem nw44 (f : Nat) : (E44).news f = newsOf [] f := rfl
theorem md44 (f : Nat) : (E44).mode f = modeOf [] f := rfl
theorem rw44 : (E44).rows = false := rfl
theorem kp44 (f : Nat) : (E44).keep f = keepOf [(8, [4]), (5, [0, 1, 5]), (7, [4]), (6, [0, 1, 5, 41]), (4, [0, 1, 5, 14]), (3, [0, 1, 5]), (2, [4]), (1, [0, 1, 10]), (0, [0, 1])] f := rfl
theorem lp44 (f : Nat) : (E44).loops f = loopsOf [(4, ([0, 1, 5], []))] f := rfl
theorem bx44 (f : Nat) : (E44).boxes f = boxesOf [] f := rfl
noncomputable def v44 : Spec := fnSpec (E44) 1 Try.f44
theorem vv44 (args : List V) (S : St) : v44 args S = fnSpec (E44) 1 Try.f44 args S := rfl
def u44 := And.intro @vv44 (And.intro @ty44 (And.intro @call44 (And.intro @nw44 (And.intro @md44 (And.intro @rw44 (And.intro @kp44 (And.intro @lp44 (@bx44))))))))
theorem ok44 : SoundAt Try.prog 44 (v44) := soundAt_of mixed tyOk rfl (by intro p hp; simp only [List.cons_append, List.nil_append, List.mem_cons, List.mem_append, List.not_mem_nil, or_false] at hp; rcases hp with rfl <;> first | exact ok43) (f := 44) (fn := Try.f44) (by kernel_rfl) (by kernel_rfl) (by kernel_rfl) _

/-! 17: stevedore/stevedorebase.SamePod (2 parameters) -/
noncomputable def E17 : Env := { ty := ty, call := callOf ([(42, v42), (43, v43), (35, v35), (44, v44), (34, v34)]), news := newsOf [], mode := modeOf [], rows := false, keep := keepOf [(21, [4]), (17, [2, 3, 7]), (20, [4]), (19, [2, 3, 7, 213]), (18, [2, 3, 7, 8, 9]), (16, [2, 3, 7, 174]), (15, [2, 3, 7]), (12, [2, 3, 6]), (14, [4]), (13, [2, 3, 6, 169]), (11, [2, 3, 6, 138]), (10, [2, 3, 6]), (7, [2, 3, 5]), (9, [4]), (8, [2, 3, 5, 133]), (6, [2, 3, 5, 120]), (5, [2, 3, 5]), (4, [4]), (3, [2, 3, 115]), (2, [4]), (1, [2, 3, 90]), (0, [2, 3])], loops := loopsOf [(16, ([2, 3, 7], [])), (11, ([2, 3, 6], [])), (6, ([2, 3, 5], []))], boxes := boxesOf [] }
theorem ty17 : (E17).ty = ty := rfl
theorem call17 (f : Nat) (args : List V) (S : St) : (E17).call f args S = callOf ([(42, v42), (43, v43), (35, v35), (44, v44), (34, v34)]) f args S := rfl
theorem nw17 (f : Nat) : (E17).news f = newsOf [] f := rfl
theorem md17 (f : Nat) : (E17).mode f = modeOf [] f := rfl
theorem rw17 : (E17).rows = false := rfl
theorem kp17 (f : Nat) : (E17).keep f = keepOf [(21, [4]), (17, [2, 3, 7]), (20, [4]), (19, [2, 3, 7, 213]), (18, [2, 3, 7, 8, 9]), (16, [2, 3, 7, 174]), (15, [2, 3, 7]), (12, [2, 3, 6]), (14, [4]), (13, [2, 3, 6, 169]), (11, [2, 3, 6, 138]), (10, [2, 3, 6]), (7, [2, 3, 5]), (9, [4]), (8, [2, 3, 5, 133]), (6, [2, 3, 5, 120]), (5, [2, 3, 5]), (4, [4]), (3, [2, 3, 115]), (2, [4]), (1, [2, 3, 90]), (0, [2, 3])] f := rfl
theorem lp17 (f : Nat) : (E17).loops f = loopsOf [(16, ([2, 3, 7], [])), (11, ([2, 3, 6], [])), (6, ([2, 3, 5], []))] f := rfl
theorem bx17 (f : Nat) : (E17).boxes f = boxesOf [] f := rfl
noncomputable def v17 : Spec := fnSpec (E17) 1 Try.f17
theorem vv17 (args : List V) (S : St) : v17 args S = fnSpec (E17) 1 Try.f17 args S := rfl
def u17 := And.intro @vv17 (And.intro @ty17 (And.intro @call17 (And.intro @nw17 (And.intro @md17 (And.intro @rw17 (And.intro @kp17 (And.intro @lp17 (@bx17))))))))
theorem ok17 : SoundAt Try.prog 17 (v17) := soundAt_of mixed tyOk rfl (by intro p hp; simp only [List.cons_append, List.nil_append, List.mem_cons, List.mem_append, List.not_mem_nil, or_false] at hp; rcases hp with rfl | rfl | rfl | rfl | rfl <;> first | exact ok42 | exact ok43 | exact ok35 | exact ok44 | exact ok34) (f := 17) (fn := Try.f17) (by kernel_rfl) (by kernel_rfl) (by kernel_rfl) _

/-! 19: stevedore/stevedorelaw06.works (0 parameters) -/
noncomputable def E19 : Env := { ty := ty, call := callOf ([(9, v9), (12, v12), (34, v34), (14, v14)]), news := newsOf [(9, 3)], mode := modeOf [(12, 1), (34, 1), (14, 1)], rows := false, keep := keepOf [(2, [0]), (1, [1]), (0, [])], loops := loopsOf [], boxes := boxesOf [] }
theorem ty19 : (E19).ty = ty := rfl
theorem call19 (f : Nat) (args : List V) (S : St) : (E19).call f args S = callOf ([(9, v9), (12, v12), (34, v34), (14, v14)]) f args S := rfl
theorem nw19 (f : Nat) : (E19).news f = newsOf [(9, 3)] f := rfl
theorem md19 (f : Nat) : (E19).mode f = modeOf [(12, 1), (34, 1), (14, 1)] f := rfl
theorem rw19 : (E19).rows = false := rfl
theorem kp19 (f : Nat) : (E19).keep f = keepOf [(2, [0]), (1, [1]), (0, [])] f := rfl
theorem lp19 (f : Nat) : (E19).loops f = loopsOf [] f := rfl
theorem bx19 (f : Nat) : (E19).boxes f = boxesOf [] f := rfl
noncomputable def v19 : Spec := fnSpec (E19) 1 Try.f19
theorem vv19 (args : List V) (S : St) : v19 args S = fnSpec (E19) 1 Try.f19 args S := rfl
def u19 := And.intro @vv19 (And.intro @ty19 (And.intro @call19 (And.intro @nw19 (And.intro @md19 (And.intro @rw19 (And.intro @kp19 (And.intro @lp19 (@bx19))))))))
theorem ok19 : SoundAt Try.prog 19 (v19) := soundAt_of mixed tyOk rfl (by intro p hp; simp only [List.cons_append, List.nil_append, List.mem_cons, List.mem_append, List.not_mem_nil, or_false] at hp; rcases hp with rfl | rfl | rfl | rfl <;> first | exact ok9 | exact ok12 | exact ok34 | exact ok14) (f := 19) (fn := Try.f19) (by kernel_rfl) (by kernel_rfl) (by kernel_rfl) _

/-! 3: stevedore/stevedorelaw06.InfoMakes (3 parameters) -/
noncomputable def E3 : Env := { ty := ty, call := callOf ([(7, v7), (8, v8), (9, v9), (10, v10), (11, v11), (12, v12), (13, v13), (14, v14), (15, v15), (16, v16), (17, v17), (18, v18), (19, v19)]), news := newsOf [(7, 1), (9, 3)], mode := modeOf [(11, 1), (12, 1), (14, 1), (17, 1), (18, 1)], rows := false, keep := keepOf [(11, [6]), (8, [1, 3, 7, 8, 11]), (10, [6]), (9, [1, 3, 7, 8, 11, 59]), (7, [1, 3, 7, 8, 11, 47]), (6, [1, 3, 7, 8, 11]), (5, [1, 3, 7, 8]), (4, [6]), (3, [1, 3, 7, 8, 9, 41]), (2, [1, 3, 5, 7, 8, 9, 10]), (1, [1, 3, 5, 7, 8]), (0, [1, 3, 5])], loops := loopsOf [(7, ([1, 3, 7, 8, 11], []))], boxes := boxesOf [] }
theorem ty3 : (E3).ty = ty := rfl
theorem call3 (f : Nat) (args : List V) (S : St) : (E3).call f args S = callOf ([(7, v7), (8, v8), (9, v9), (10, v10), (11, v11), (12, v12), (13, v13), (14, v14), (15, v15), (16, v16), (17, v17), (18, v18), (19, v19)]) f args S := rfl
theorem nw3 (f : Nat) : (E3).news f = newsOf [(7, 1), (9, 3)] f := rfl
theorem md3 (f : Nat) : (E3).mode f = modeOf [(11, 1), (12, 1), (14, 1), (17, 1), (18, 1)] f := rfl
theorem rw3 : (E3).rows = false := rfl
theorem kp3 (f : Nat) : (E3).keep f = keepOf [(11, [6]), (8, [1, 3, 7, 8, 11]), (10, [6]), (9, [1, 3, 7, 8, 11, 59]), (7, [1, 3, 7, 8, 11, 47]), (6, [1, 3, 7, 8, 11]), (5, [1, 3, 7, 8]), (4, [6]), (3, [1, 3, 7, 8, 9, 41]), (2, [1, 3, 5, 7, 8, 9, 10]), (1, [1, 3, 5, 7, 8]), (0, [1, 3, 5])] f := rfl
theorem lp3 (f : Nat) : (E3).loops f = loopsOf [(7, ([1, 3, 7, 8, 11], []))] f := rfl
theorem bx3 (f : Nat) : (E3).boxes f = boxesOf [] f := rfl
noncomputable def v3 : Spec := fnSpec (E3) 1 Try.f3
theorem vv3 (args : List V) (S : St) : v3 args S = fnSpec (E3) 1 Try.f3 args S := rfl
def u3 := And.intro @vv3 (And.intro @ty3 (And.intro @call3 (And.intro @nw3 (And.intro @md3 (And.intro @rw3 (And.intro @kp3 (And.intro @lp3 (@bx3))))))))
theorem ok3 : SoundAt Try.prog 3 (v3) := soundAt_of mixed tyOk rfl (by intro p hp; simp only [List.cons_append, List.nil_append, List.mem_cons, List.mem_append, List.not_mem_nil, or_false] at hp; rcases hp with rfl | rfl | rfl | rfl | rfl | rfl | rfl | rfl | rfl | rfl | rfl | rfl | rfl <;> first | exact ok7 | exact ok8 | exact ok9 | exact ok10 | exact ok11 | exact ok12 | exact ok13 | exact ok14 | exact ok15 | exact ok16 | exact ok17 | exact ok18 | exact ok19) (f := 3) (fn := Try.f3) (by kernel_rfl) (by kernel_rfl) (by kernel_rfl) _

/-! 22: stevedore/stevedorebase.Among (2 parameters) -/
noncomputable def E22 : Env := { ty := ty, call := callOf ([]), news := newsOf [], mode := modeOf [], rows := false, keep := keepOf [(1, [4]), (0, [0, 1])], loops := loopsOf [], boxes := boxesOf [] }
theorem ty22 : (E22).ty = ty := rfl
theorem call22 (f : Nat) (args : List V) (S : St) : (E22).call f args S = callOf ([]) f args S := rfl
theorem nw22 (f : Nat) : (E22).news f = newsOf [] f := rfl
theorem md22 (f : Nat) : (E22).mode f = modeOf [] f := rfl
theorem rw22 : (E22).rows = false := rfl
theorem kp22 (f : Nat) : (E22).keep f = keepOf [(1, [4]), (0, [0, 1])] f := rfl
theorem lp22 (f : Nat) : (E22).loops f = loopsOf [] f := rfl
theorem bx22 (f : Nat) : (E22).boxes f = boxesOf [] f := rfl
noncomputable def v22 : Spec := fnSpec (E22) 1 Try.f22
theorem vv22 (args : List V) (S : St) : v22 args S = fnSpec (E22) 1 Try.f22 args S := rfl
def u22 := And.intro @vv22 (And.intro @ty22 (And.intro @call22 (And.intro @nw22 (And.intro @md22 (And.intro @rw22 (And.intro @kp22 (And.intro @lp22 (@bx22))))))))
theorem ok22 : SoundAt Try.prog 22 (v22) := soundAt_of mixed tyOk rfl (by intro p hp; simp at hp) (f := 22) (fn := Try.f22) (by kernel_rfl) (by kernel_rfl) (by kernel_rfl) _

/-! 66: slices.Clone[[]string,string] (1 parameters) -/
noncomputable def E66 : Env := { ty := ty, call := callOf ([]), news := newsOf [], mode := modeOf [], rows := true, keep := keepOf [(3, [2]), (2, [2]), (1, [0, 4]), (0, [0])], loops := loopsOf [], boxes := boxesOf [] }
theorem ty66 : (E66).ty = ty := rfl
theorem call66 (f : Nat) (args : List V) (S : St) : (E66).call f args S = callOf ([]) f args S := rfl
theorem nw66 (f : Nat) : (E66).news f = newsOf [] f := rfl
theorem md66 (f : Nat) : (E66).mode f = modeOf [] f := rfl
theorem rw66 : (E66).rows = true := rfl
theorem kp66 (f : Nat) : (E66).keep f = keepOf [(3, [2]), (2, [2]), (1, [0, 4]), (0, [0])] f := rfl
theorem lp66 (f : Nat) : (E66).loops f = loopsOf [] f := rfl
theorem bx66 (f : Nat) : (E66).boxes f = boxesOf [] f := rfl
noncomputable def wv66 : Spec := fnSpec (E66) 0 Try.f66
theorem vv66 (args : List V) (S : St) : wv66 args S = fnSpec (E66) 0 Try.f66 args S := rfl
def wu66 := And.intro @vv66 (And.intro @ty66 (And.intro @call66 (And.intro @nw66 (And.intro @md66 (And.intro @rw66 (And.intro @kp66 (And.intro @lp66 (@bx66))))))))
theorem wok66 : SoundAt Try.prog 66 (wv66) := soundAt_of mixed tyOk rfl (by intro p hp; simp at hp) (f := 66) (fn := Try.f66) (by kernel_rfl) (by kernel_rfl) (by kernel_rfl) _
theorem cl66_1 (x : D) (r : List D) (hall : (x :: r).all (fun x => x.cells.length == 1) = true) (hlen : (x :: r).length ≤ 2147483648) : wv66 [.d (.sl (x :: r))] [] = some (.sl 0 0 (x :: r).length, [.row 9 1 (x :: r)]) := by
  have hlen' : r.length ≤ 2147483647 := by simp at hlen; omega
  rw [List.all_cons] at hall
  simp only [wu66, Try.f66, sm, tys, Nat.reduceAdd, Nat.reduceSub, Nat.reduceEqDiff, Nat.reduceLeDiff, Nat.reduceLT, Nat.reduceMul, Nat.reduceBEq, ↓reduceIte, reduceCtorEq, Int.reduceLT, Int.reduceLE, Int.reduceGT, Int.reduceGE, Int.reduceBEq, Int.reduceBNe, Int.reduceEq, Int.reduceNe, Int.reduceAdd, Int.reduceSub, Int.reduceMul, Int.reduceNeg, Int.reduceToNat, hall, hlen']
theorem cl66_2 : wv66 [.nil] [] = some (.nil, []) := by
  simp only [wu66, Try.f66, sm, tys, Nat.reduceAdd, Nat.reduceSub, Nat.reduceEqDiff, Nat.reduceLeDiff, Nat.reduceLT, Nat.reduceMul, Nat.reduceBEq, ↓reduceIte, reduceCtorEq, Int.reduceLT, Int.reduceLE, Int.reduceGT, Int.reduceGE, Int.reduceBEq, Int.reduceBNe, Int.reduceEq, Int.reduceNe, Int.reduceAdd, Int.reduceSub, Int.reduceMul, Int.reduceNeg, Int.reduceToNat]
theorem cl66_3 : wv66 [.emp] [] = some (.sl 0 0 0, [.row 9 1 []]) := by
  simp only [wu66, Try.f66, sm, tys, Nat.reduceAdd, Nat.reduceSub, Nat.reduceEqDiff, Nat.reduceLeDiff, Nat.reduceLT, Nat.reduceMul, Nat.reduceBEq, ↓reduceIte, reduceCtorEq, Int.reduceLT, Int.reduceLE, Int.reduceGT, Int.reduceGE, Int.reduceBEq, Int.reduceBNe, Int.reduceEq, Int.reduceNe, Int.reduceAdd, Int.reduceSub, Int.reduceMul, Int.reduceNeg, Int.reduceToNat]
theorem cl66_4 (xs : List D) (lo n : Nat) (hn : 0 < n) (hall : ((xs.drop lo).take n).all (fun x => x.cells.length == 1) = true) (hlen : ((xs.drop lo).take n).length = n) (hmax : n ≤ 2147483648) : wv66 [.sl 0 lo n] [.row 9 1 xs] = some (.sl 1 0 n, [.row 9 1 xs, .row 9 1 ((xs.drop lo).take n)]) := by
  generalize hys : ((xs.drop lo).take n) = ys at *
  simp only [wu66, Try.f66, sm, tys, Nat.reduceAdd, Nat.reduceSub, Nat.reduceEqDiff, Nat.reduceLeDiff, Nat.reduceLT, Nat.reduceMul, Nat.reduceBEq, ↓reduceIte, reduceCtorEq, Int.reduceLT, Int.reduceLE, Int.reduceGT, Int.reduceGE, Int.reduceBEq, Int.reduceBNe, Int.reduceEq, Int.reduceNe, Int.reduceAdd, Int.reduceSub, Int.reduceMul, Int.reduceNeg, Int.reduceToNat, hn, hall, hlen, hmax, hys]
theorem cl66_5 (xs : List D) : wv66 [.nil] [.row 9 1 xs] = some (.nil, [.row 9 1 xs]) := by
  simp only [wu66, Try.f66, sm, tys, Nat.reduceAdd, Nat.reduceSub, Nat.reduceEqDiff, Nat.reduceLeDiff, Nat.reduceLT, Nat.reduceMul, Nat.reduceBEq, ↓reduceIte, reduceCtorEq, Int.reduceLT, Int.reduceLE, Int.reduceGT, Int.reduceGE, Int.reduceBEq, Int.reduceBNe, Int.reduceEq, Int.reduceNe, Int.reduceAdd, Int.reduceSub, Int.reduceMul, Int.reduceNeg, Int.reduceToNat]
theorem cl66_6 (xs : List D) : wv66 [.emp] [.row 9 1 xs] = some (.sl 1 0 0, [.row 9 1 xs, .row 9 1 []]) := by
  simp only [wu66, Try.f66, sm, tys, Nat.reduceAdd, Nat.reduceSub, Nat.reduceEqDiff, Nat.reduceLeDiff, Nat.reduceLT, Nat.reduceMul, Nat.reduceBEq, ↓reduceIte, reduceCtorEq, Int.reduceLT, Int.reduceLE, Int.reduceGT, Int.reduceGE, Int.reduceBEq, Int.reduceBNe, Int.reduceEq, Int.reduceNe, Int.reduceAdd, Int.reduceSub, Int.reduceMul, Int.reduceNeg, Int.reduceToNat]
noncomputable def v66 : Spec := cloneSpec true 9 1
theorem vc66 (xs : List D) : v66 [.d (.sl xs)] [] = if xs.all (fun x => x.cells.length == 1) then (if xs.length ≤ 2147483648 then some (.sl 0 0 xs.length, [.row 9 1 xs]) else none) else none := rfl
def u66 := @vc66
theorem vcl66 (xs : List D) (h1 : xs.all (fun x => x.cells.length == 1) = true) (h3 : xs.length ≤ 2147483648) : v66 [.sl 0 0 xs.length] [.row 9 1 xs] = some (.sl 1 0 xs.length, [.row 9 1 xs, .row 9 1 xs]) := clone_all true 9 1 xs h1 h3
theorem ok66 : SoundAt Try.prog 66 v66 := clone_sound (rows := true) (e := 9) (sz := 1) wok66 cl66_1 cl66_2 cl66_3 cl66_4 cl66_5 cl66_6

/-! 67: slices.Clone[[]int,int] (1 parameters) -/
noncomputable def E67 : Env := { ty := ty, call := callOf ([]), news := newsOf [], mode := modeOf [], rows := true, keep := keepOf [(3, [2]), (2, [2]), (1, [0, 4]), (0, [0])], loops := loopsOf [], boxes := boxesOf [] }
theorem ty67 : (E67).ty = ty := rfl
theorem call67 (f : Nat) (args : List V) (S : St) : (E67).call f args S = callOf ([]) f args S := rfl
theorem nw67 (f : Nat) : (E67).news f = newsOf [] f := rfl
theorem md67 (f : Nat) : (E67).mode f = modeOf [] f := rfl
theorem rw67 : (E67).rows = true := rfl
theorem kp67 (f : Nat) : (E67).keep f = keepOf [(3, [2]), (2, [2]), (1, [0, 4]), (0, [0])] f := rfl
theorem lp67 (f : Nat) : (E67).loops f = loopsOf [] f := rfl
theorem bx67 (f : Nat) : (E67).boxes f = boxesOf [] f := rfl
noncomputable def wv67 : Spec := fnSpec (E67) 0 Try.f67
theorem vv67 (args : List V) (S : St) : wv67 args S = fnSpec (E67) 0 Try.f67 args S := rfl
def wu67 := And.intro @vv67 (And.intro @ty67 (And.intro @call67 (And.intro @nw67 (And.intro @md67 (And.intro @rw67 (And.intro @kp67 (And.intro @lp67 (@bx67))))))))
theorem wok67 : SoundAt Try.prog 67 (wv67) := soundAt_of mixed tyOk rfl (by intro p hp; simp at hp) (f := 67) (fn := Try.f67) (by kernel_rfl) (by kernel_rfl) (by kernel_rfl) _
theorem cl67_1 (x : D) (r : List D) (hall : (x :: r).all (fun x => x.cells.length == 1) = true) (hlen : (x :: r).length ≤ 2147483648) : wv67 [.d (.sl (x :: r))] [] = some (.sl 0 0 (x :: r).length, [.row 3 1 (x :: r)]) := by
  have hlen' : r.length ≤ 2147483647 := by simp at hlen; omega
  rw [List.all_cons] at hall
  simp only [wu67, Try.f67, sm, tys, Nat.reduceAdd, Nat.reduceSub, Nat.reduceEqDiff, Nat.reduceLeDiff, Nat.reduceLT, Nat.reduceMul, Nat.reduceBEq, ↓reduceIte, reduceCtorEq, Int.reduceLT, Int.reduceLE, Int.reduceGT, Int.reduceGE, Int.reduceBEq, Int.reduceBNe, Int.reduceEq, Int.reduceNe, Int.reduceAdd, Int.reduceSub, Int.reduceMul, Int.reduceNeg, Int.reduceToNat, hall, hlen']
theorem cl67_2 : wv67 [.nil] [] = some (.nil, []) := by
  simp only [wu67, Try.f67, sm, tys, Nat.reduceAdd, Nat.reduceSub, Nat.reduceEqDiff, Nat.reduceLeDiff, Nat.reduceLT, Nat.reduceMul, Nat.reduceBEq, ↓reduceIte, reduceCtorEq, Int.reduceLT, Int.reduceLE, Int.reduceGT, Int.reduceGE, Int.reduceBEq, Int.reduceBNe, Int.reduceEq, Int.reduceNe, Int.reduceAdd, Int.reduceSub, Int.reduceMul, Int.reduceNeg, Int.reduceToNat]
theorem cl67_3 : wv67 [.emp] [] = some (.sl 0 0 0, [.row 3 1 []]) := by
  simp only [wu67, Try.f67, sm, tys, Nat.reduceAdd, Nat.reduceSub, Nat.reduceEqDiff, Nat.reduceLeDiff, Nat.reduceLT, Nat.reduceMul, Nat.reduceBEq, ↓reduceIte, reduceCtorEq, Int.reduceLT, Int.reduceLE, Int.reduceGT, Int.reduceGE, Int.reduceBEq, Int.reduceBNe, Int.reduceEq, Int.reduceNe, Int.reduceAdd, Int.reduceSub, Int.reduceMul, Int.reduceNeg, Int.reduceToNat]
theorem cl67_4 (xs : List D) (lo n : Nat) (hn : 0 < n) (hall : ((xs.drop lo).take n).all (fun x => x.cells.length == 1) = true) (hlen : ((xs.drop lo).take n).length = n) (hmax : n ≤ 2147483648) : wv67 [.sl 0 lo n] [.row 3 1 xs] = some (.sl 1 0 n, [.row 3 1 xs, .row 3 1 ((xs.drop lo).take n)]) := by
  generalize hys : ((xs.drop lo).take n) = ys at *
  simp only [wu67, Try.f67, sm, tys, Nat.reduceAdd, Nat.reduceSub, Nat.reduceEqDiff, Nat.reduceLeDiff, Nat.reduceLT, Nat.reduceMul, Nat.reduceBEq, ↓reduceIte, reduceCtorEq, Int.reduceLT, Int.reduceLE, Int.reduceGT, Int.reduceGE, Int.reduceBEq, Int.reduceBNe, Int.reduceEq, Int.reduceNe, Int.reduceAdd, Int.reduceSub, Int.reduceMul, Int.reduceNeg, Int.reduceToNat, hn, hall, hlen, hmax, hys]
theorem cl67_5 (xs : List D) : wv67 [.nil] [.row 3 1 xs] = some (.nil, [.row 3 1 xs]) := by
  simp only [wu67, Try.f67, sm, tys, Nat.reduceAdd, Nat.reduceSub, Nat.reduceEqDiff, Nat.reduceLeDiff, Nat.reduceLT, Nat.reduceMul, Nat.reduceBEq, ↓reduceIte, reduceCtorEq, Int.reduceLT, Int.reduceLE, Int.reduceGT, Int.reduceGE, Int.reduceBEq, Int.reduceBNe, Int.reduceEq, Int.reduceNe, Int.reduceAdd, Int.reduceSub, Int.reduceMul, Int.reduceNeg, Int.reduceToNat]
theorem cl67_6 (xs : List D) : wv67 [.emp] [.row 3 1 xs] = some (.sl 1 0 0, [.row 3 1 xs, .row 3 1 []]) := by
  simp only [wu67, Try.f67, sm, tys, Nat.reduceAdd, Nat.reduceSub, Nat.reduceEqDiff, Nat.reduceLeDiff, Nat.reduceLT, Nat.reduceMul, Nat.reduceBEq, ↓reduceIte, reduceCtorEq, Int.reduceLT, Int.reduceLE, Int.reduceGT, Int.reduceGE, Int.reduceBEq, Int.reduceBNe, Int.reduceEq, Int.reduceNe, Int.reduceAdd, Int.reduceSub, Int.reduceMul, Int.reduceNeg, Int.reduceToNat]
noncomputable def v67 : Spec := cloneSpec true 3 1
theorem vc67 (xs : List D) : v67 [.d (.sl xs)] [] = if xs.all (fun x => x.cells.length == 1) then (if xs.length ≤ 2147483648 then some (.sl 0 0 xs.length, [.row 3 1 xs]) else none) else none := rfl
def u67 := @vc67
theorem vcl67 (xs : List D) (h1 : xs.all (fun x => x.cells.length == 1) = true) (h3 : xs.length ≤ 2147483648) : v67 [.sl 0 0 xs.length] [.row 3 1 xs] = some (.sl 1 0 xs.length, [.row 3 1 xs, .row 3 1 xs]) := clone_all true 3 1 xs h1 h3
theorem ok67 : SoundAt Try.prog 67 v67 := clone_sound (rows := true) (e := 3) (sz := 1) wok67 cl67_1 cl67_2 cl67_3 cl67_4 cl67_5 cl67_6

/-! 47: stevedore/info.own (1 parameters) -/
noncomputable def E47 : Env := { ty := ty, call := callOf ([(66, v66), (67, v67)]), news := newsOf [(66, 1), (67, 1)], mode := modeOf [], rows := false, keep := keepOf [(2, [2]), (1, [1, 2]), (0, [1, 2])], loops := loopsOf [], boxes := boxesOf [] }
theorem ty47 : (E47).ty = ty := rfl
theorem call47 (f : Nat) (args : List V) (S : St) : (E47).call f args S = callOf ([(66, v66), (67, v67)]) f args S := rfl
theorem nw47 (f : Nat) : (E47).news f = newsOf [(66, 1), (67, 1)] f := rfl
theorem md47 (f : Nat) : (E47).mode f = modeOf [] f := rfl
theorem rw47 : (E47).rows = false := rfl
theorem kp47 (f : Nat) : (E47).keep f = keepOf [(2, [2]), (1, [1, 2]), (0, [1, 2])] f := rfl
theorem lp47 (f : Nat) : (E47).loops f = loopsOf [] f := rfl
theorem bx47 (f : Nat) : (E47).boxes f = boxesOf [] f := rfl
noncomputable def v47 : Spec := fnSpec (E47) 0 Try.f47
theorem vv47 (args : List V) (S : St) : v47 args S = fnSpec (E47) 0 Try.f47 args S := rfl
def u47 := And.intro @vv47 (And.intro @ty47 (And.intro @call47 (And.intro @nw47 (And.intro @md47 (And.intro @rw47 (And.intro @kp47 (And.intro @lp47 (@bx47))))))))
theorem ok47 : SoundAt Try.prog 47 (v47) := soundAt_of mixed tyOk rfl (by intro p hp; simp only [List.cons_append, List.nil_append, List.mem_cons, List.mem_append, List.not_mem_nil, or_false] at hp; rcases hp with rfl | rfl <;> first | exact ok66 | exact ok67) (f := 47) (fn := Try.f47) (by kernel_rfl) (by kernel_rfl) (by kernel_rfl) _

/-! 23: stevedore/info.Add (2 parameters) -/
noncomputable def E23 : Env := { ty := ty, call := callOf ([(29, v29), (47, v47), (30, v30)]), news := newsOf [(47, 3), (30, 3)], mode := modeOf [(29, 1)], rows := true, keep := keepOf [(3, [4, 5]), (2, [4, 5]), (1, [2, 3, 4, 10]), (0, [2, 3, 4])], loops := loopsOf [], boxes := boxesOf [] }
theorem ty23 : (E23).ty = ty := rfl
theorem call23 (f : Nat) (args : List V) (S : St) : (E23).call f args S = callOf ([(29, v29), (47, v47), (30, v30)]) f args S := rfl
theorem nw23 (f : Nat) : (E23).news f = newsOf [(47, 3), (30, 3)] f := rfl
theorem md23 (f : Nat) : (E23).mode f = modeOf [(29, 1)] f := rfl
theorem rw23 : (E23).rows = true := rfl
theorem kp23 (f : Nat) : (E23).keep f = keepOf [(3, [4, 5]), (2, [4, 5]), (1, [2, 3, 4, 10]), (0, [2, 3, 4])] f := rfl
theorem lp23 (f : Nat) : (E23).loops f = loopsOf [] f := rfl
theorem bx23 (f : Nat) : (E23).boxes f = boxesOf [] f := rfl
noncomputable def v23 : Spec := fnSpec (E23) 0 Try.f23
theorem vv23 (args : List V) (S : St) : v23 args S = fnSpec (E23) 0 Try.f23 args S := rfl
def u23 := And.intro @vv23 (And.intro @ty23 (And.intro @call23 (And.intro @nw23 (And.intro @md23 (And.intro @rw23 (And.intro @kp23 (And.intro @lp23 (@bx23))))))))
theorem ok23 : SoundAt Try.prog 23 (v23) := soundAt_of mixed tyOk rfl (by intro p hp; simp only [List.cons_append, List.nil_append, List.mem_cons, List.mem_append, List.not_mem_nil, or_false] at hp; rcases hp with rfl | rfl | rfl <;> first | exact ok29 | exact ok47 | exact ok30) (f := 23) (fn := Try.f23) (by kernel_rfl) (by kernel_rfl) (by kernel_rfl) _

/-! 4: stevedore/stevedorelaw06.InfoOrder (3 parameters) -/
noncomputable def E4 : Env := { ty := ty, call := callOf ([(19, v19), (20, v20), (21, v21), (9, v9), (22, v22), (7, v7), (23, v23), (11, v11)]), news := newsOf [(9, 3), (7, 1), (23, 3)], mode := modeOf [(21, 1), (11, 1)], rows := false, keep := keepOf [(27, [6]), (22, [1, 3, 11, 13, 14]), (26, [1, 3, 11, 13, 14]), (25, [6]), (24, [1, 3, 11, 13, 14, 15, 99]), (23, [1, 3, 11, 13, 14, 15, 16]), (21, [1, 3, 11, 13, 14, 86]), (20, [1, 3, 11, 13, 14]), (19, [1, 3, 11, 13]), (18, [1, 3, 11, 12]), (17, [1, 2, 3, 11]), (13, [1, 2, 3, 9, 10]), (16, [1, 2, 3, 9, 10]), (15, [6]), (14, [1, 2, 3, 9, 10, 59]), (12, [1, 2, 3, 9, 10, 50]), (11, [1, 2, 3, 9, 10]), (10, [1, 2, 3, 9]), (9, [6]), (8, [1, 2, 3, 45]), (6, [1, 2, 3, 7, 8]), (7, [1, 2, 3, 7, 8]), (5, [1, 2, 3, 7, 8, 23]), (4, [1, 2, 3, 7, 8]), (3, [1, 2, 3, 7]), (2, [6]), (1, [1, 2, 3, 18]), (0, [1, 2, 3])], loops := loopsOf [(21, ([1, 3, 11, 13, 14], [])), (12, ([1, 2, 3, 9, 10], [(9, (9, 1))])), (5, ([1, 2, 3, 7, 8], []))], boxes := boxesOf [] }
theorem ty4 : (E4).ty = ty := rfl
theorem call4 (f : Nat) (args : List V) (S : St) : (E4).call f args S = callOf ([(19, v19), (20, v20), (21, v21), (9, v9), (22, v22), (7, v7), (23, v23), (11, v11)]) f args S := rfl
theorem nw4 (f : Nat) : (E4).news f = newsOf [(9, 3), (7, 1), (23, 3)] f := rfl
theorem md4 (f : Nat) : (E4).mode f = modeOf [(21, 1), (11, 1)] f := rfl
theorem rw4 : (E4).rows = false := rfl
theorem kp4 (f : Nat) : (E4).keep f = keepOf [(27, [6]), (22, [1, 3, 11, 13, 14]), (26, [1, 3, 11, 13, 14]), (25, [6]), (24, [1, 3, 11, 13, 14, 15, 99]), (23, [1, 3, 11, 13, 14, 15, 16]), (21, [1, 3, 11, 13, 14, 86]), (20, [1, 3, 11, 13, 14]), (19, [1, 3, 11, 13]), (18, [1, 3, 11, 12]), (17, [1, 2, 3, 11]), (13, [1, 2, 3, 9, 10]), (16, [1, 2, 3, 9, 10]), (15, [6]), (14, [1, 2, 3, 9, 10, 59]), (12, [1, 2, 3, 9, 10, 50]), (11, [1, 2, 3, 9, 10]), (10, [1, 2, 3, 9]), (9, [6]), (8, [1, 2, 3, 45]), (6, [1, 2, 3, 7, 8]), (7, [1, 2, 3, 7, 8]), (5, [1, 2, 3, 7, 8, 23]), (4, [1, 2, 3, 7, 8]), (3, [1, 2, 3, 7]), (2, [6]), (1, [1, 2, 3, 18]), (0, [1, 2, 3])] f := rfl
theorem lp4 (f : Nat) : (E4).loops f = loopsOf [(21, ([1, 3, 11, 13, 14], [])), (12, ([1, 2, 3, 9, 10], [(9, (9, 1))])), (5, ([1, 2, 3, 7, 8], []))] f := rfl
theorem bx4 (f : Nat) : (E4).boxes f = boxesOf [] f := rfl
noncomputable def v4 : Spec := fnSpec (E4) 1 Try.f4
theorem vv4 (args : List V) (S : St) : v4 args S = fnSpec (E4) 1 Try.f4 args S := rfl
def u4 := And.intro @vv4 (And.intro @ty4 (And.intro @call4 (And.intro @nw4 (And.intro @md4 (And.intro @rw4 (And.intro @kp4 (And.intro @lp4 (@bx4))))))))
theorem ok4 : SoundAt Try.prog 4 (v4) := soundAt_of mixed tyOk rfl (by intro p hp; simp only [List.cons_append, List.nil_append, List.mem_cons, List.mem_append, List.not_mem_nil, or_false] at hp; rcases hp with rfl | rfl | rfl | rfl | rfl | rfl | rfl | rfl <;> first | exact ok19 | exact ok20 | exact ok21 | exact ok9 | exact ok22 | exact ok7 | exact ok23 | exact ok11) (f := 4) (fn := Try.f4) (by kernel_rfl) (by kernel_rfl) (by kernel_rfl) _

/-! 25: stevedore/stevedoreref06.Add (2 parameters) -/
noncomputable def E25 : Env := { ty := ty, call := callOf ([(21, v21), (51, v51t), (32, v32), (31, v31), (49, v49t), (33, v33)]), news := newsOf [(51, 1), (49, 1)], mode := modeOf [(21, 1)], rows := false, keep := keepOf [(3, [4, 5]), (2, [4, 5]), (1, [2, 3, 4, 10]), (0, [2, 3, 4])], loops := loopsOf [], boxes := boxesOf [] }
theorem ty25 : (E25).ty = ty := rfl
theorem call25 (f : Nat) (args : List V) (S : St) : (E25).call f args S = callOf ([(21, v21), (51, v51t), (32, v32), (31, v31), (49, v49t), (33, v33)]) f args S := rfl
theorem nw25 (f : Nat) : (E25).news f = newsOf [(51, 1), (49, 1)] f := rfl
theorem md25 (f : Nat) : (E25).mode f = modeOf [(21, 1)] f := rfl
theorem rw25 : (E25).rows = false := rfl
theorem kp25 (f : Nat) : (E25).keep f = keepOf [(3, [4, 5]), (2, [4, 5]), (1, [2, 3, 4, 10]), (0, [2, 3, 4])] f := rfl
theorem lp25 (f : Nat) : (E25).loops f = loopsOf [] f := rfl
theorem bx25 (f : Nat) : (E25).boxes f = boxesOf [] f := rfl
noncomputable def v25 : Spec := fnSpec (E25) 1 Try.f25
theorem vv25 (args : List V) (S : St) : v25 args S = fnSpec (E25) 1 Try.f25 args S := rfl
def u25 := And.intro @vv25 (And.intro @ty25 (And.intro @call25 (And.intro @nw25 (And.intro @md25 (And.intro @rw25 (And.intro @kp25 (And.intro @lp25 (@bx25))))))))
theorem ok25 : SoundAt Try.prog 25 (v25) := soundAt_of mixed tyOk rfl (by intro p hp; simp only [List.cons_append, List.nil_append, List.mem_cons, List.mem_append, List.not_mem_nil, or_false] at hp; rcases hp with rfl | rfl | rfl | rfl | rfl | rfl <;> first | exact ok21 | exact ok51t | exact ok32 | exact ok31 | exact ok49t | exact ok33) (f := 25) (fn := Try.f25) (by kernel_rfl) (by kernel_rfl) (by kernel_rfl) _

/-! 53: slices.Clone[[]stevedore/api.Pod,stevedore/api.Pod] (1 parameters) -/
noncomputable def E53 : Env := { ty := ty, call := callOf ([]), news := newsOf [], mode := modeOf [], rows := true, keep := keepOf [(3, [2]), (2, [2]), (1, [0, 4]), (0, [0])], loops := loopsOf [], boxes := boxesOf [] }
theorem ty53 : (E53).ty = ty := rfl
theorem call53 (f : Nat) (args : List V) (S : St) : (E53).call f args S = callOf ([]) f args S := rfl
theorem nw53 (f : Nat) : (E53).news f = newsOf [] f := rfl
theorem md53 (f : Nat) : (E53).mode f = modeOf [] f := rfl
theorem rw53 : (E53).rows = true := rfl
theorem kp53 (f : Nat) : (E53).keep f = keepOf [(3, [2]), (2, [2]), (1, [0, 4]), (0, [0])] f := rfl
theorem lp53 (f : Nat) : (E53).loops f = loopsOf [] f := rfl
theorem bx53 (f : Nat) : (E53).boxes f = boxesOf [] f := rfl
noncomputable def wv53 : Spec := fnSpec (E53) 0 Try.f53
theorem vv53 (args : List V) (S : St) : wv53 args S = fnSpec (E53) 0 Try.f53 args S := rfl
def wu53 := And.intro @vv53 (And.intro @ty53 (And.intro @call53 (And.intro @nw53 (And.intro @md53 (And.intro @rw53 (And.intro @kp53 (And.intro @lp53 (@bx53))))))))
theorem wok53 : SoundAt Try.prog 53 (wv53) := soundAt_of mixed tyOk rfl (by intro p hp; simp at hp) (f := 53) (fn := Try.f53) (by kernel_rfl) (by kernel_rfl) (by kernel_rfl) _
theorem cl53_1 (x : D) (r : List D) (hall : (x :: r).all (fun x => x.cells.length == 16) = true) (hlen : (x :: r).length ≤ 2147483648) : wv53 [.d (.sl (x :: r))] [] = some (.sl 0 0 (x :: r).length, [.row 37 16 (x :: r)]) := by
  have hlen' : r.length ≤ 2147483647 := by simp at hlen; omega
  rw [List.all_cons] at hall
  simp only [wu53, Try.f53, sm, tys, Nat.reduceAdd, Nat.reduceSub, Nat.reduceEqDiff, Nat.reduceLeDiff, Nat.reduceLT, Nat.reduceMul, Nat.reduceBEq, ↓reduceIte, reduceCtorEq, Int.reduceLT, Int.reduceLE, Int.reduceGT, Int.reduceGE, Int.reduceBEq, Int.reduceBNe, Int.reduceEq, Int.reduceNe, Int.reduceAdd, Int.reduceSub, Int.reduceMul, Int.reduceNeg, Int.reduceToNat, hall, hlen']
theorem cl53_2 : wv53 [.nil] [] = some (.nil, []) := by
  simp only [wu53, Try.f53, sm, tys, Nat.reduceAdd, Nat.reduceSub, Nat.reduceEqDiff, Nat.reduceLeDiff, Nat.reduceLT, Nat.reduceMul, Nat.reduceBEq, ↓reduceIte, reduceCtorEq, Int.reduceLT, Int.reduceLE, Int.reduceGT, Int.reduceGE, Int.reduceBEq, Int.reduceBNe, Int.reduceEq, Int.reduceNe, Int.reduceAdd, Int.reduceSub, Int.reduceMul, Int.reduceNeg, Int.reduceToNat]
theorem cl53_3 : wv53 [.emp] [] = some (.sl 0 0 0, [.row 37 16 []]) := by
  simp only [wu53, Try.f53, sm, tys, Nat.reduceAdd, Nat.reduceSub, Nat.reduceEqDiff, Nat.reduceLeDiff, Nat.reduceLT, Nat.reduceMul, Nat.reduceBEq, ↓reduceIte, reduceCtorEq, Int.reduceLT, Int.reduceLE, Int.reduceGT, Int.reduceGE, Int.reduceBEq, Int.reduceBNe, Int.reduceEq, Int.reduceNe, Int.reduceAdd, Int.reduceSub, Int.reduceMul, Int.reduceNeg, Int.reduceToNat]
theorem cl53_4 (xs : List D) (lo n : Nat) (hn : 0 < n) (hall : ((xs.drop lo).take n).all (fun x => x.cells.length == 16) = true) (hlen : ((xs.drop lo).take n).length = n) (hmax : n ≤ 2147483648) : wv53 [.sl 0 lo n] [.row 37 16 xs] = some (.sl 1 0 n, [.row 37 16 xs, .row 37 16 ((xs.drop lo).take n)]) := by
  generalize hys : ((xs.drop lo).take n) = ys at *
  simp only [wu53, Try.f53, sm, tys, Nat.reduceAdd, Nat.reduceSub, Nat.reduceEqDiff, Nat.reduceLeDiff, Nat.reduceLT, Nat.reduceMul, Nat.reduceBEq, ↓reduceIte, reduceCtorEq, Int.reduceLT, Int.reduceLE, Int.reduceGT, Int.reduceGE, Int.reduceBEq, Int.reduceBNe, Int.reduceEq, Int.reduceNe, Int.reduceAdd, Int.reduceSub, Int.reduceMul, Int.reduceNeg, Int.reduceToNat, hn, hall, hlen, hmax, hys]
theorem cl53_5 (xs : List D) : wv53 [.nil] [.row 37 16 xs] = some (.nil, [.row 37 16 xs]) := by
  simp only [wu53, Try.f53, sm, tys, Nat.reduceAdd, Nat.reduceSub, Nat.reduceEqDiff, Nat.reduceLeDiff, Nat.reduceLT, Nat.reduceMul, Nat.reduceBEq, ↓reduceIte, reduceCtorEq, Int.reduceLT, Int.reduceLE, Int.reduceGT, Int.reduceGE, Int.reduceBEq, Int.reduceBNe, Int.reduceEq, Int.reduceNe, Int.reduceAdd, Int.reduceSub, Int.reduceMul, Int.reduceNeg, Int.reduceToNat]
theorem cl53_6 (xs : List D) : wv53 [.emp] [.row 37 16 xs] = some (.sl 1 0 0, [.row 37 16 xs, .row 37 16 []]) := by
  simp only [wu53, Try.f53, sm, tys, Nat.reduceAdd, Nat.reduceSub, Nat.reduceEqDiff, Nat.reduceLeDiff, Nat.reduceLT, Nat.reduceMul, Nat.reduceBEq, ↓reduceIte, reduceCtorEq, Int.reduceLT, Int.reduceLE, Int.reduceGT, Int.reduceGE, Int.reduceBEq, Int.reduceBNe, Int.reduceEq, Int.reduceNe, Int.reduceAdd, Int.reduceSub, Int.reduceMul, Int.reduceNeg, Int.reduceToNat]
noncomputable def v53 : Spec := cloneSpec true 37 16
theorem vc53 (xs : List D) : v53 [.d (.sl xs)] [] = if xs.all (fun x => x.cells.length == 16) then (if xs.length ≤ 2147483648 then some (.sl 0 0 xs.length, [.row 37 16 xs]) else none) else none := rfl
def u53 := @vc53
theorem vcl53 (xs : List D) (h1 : xs.all (fun x => x.cells.length == 16) = true) (h3 : xs.length ≤ 2147483648) : v53 [.sl 0 0 xs.length] [.row 37 16 xs] = some (.sl 1 0 xs.length, [.row 37 16 xs, .row 37 16 xs]) := clone_all true 37 16 xs h1 h3
theorem ok53 : SoundAt Try.prog 53 v53 := clone_sound (rows := true) (e := 37) (sz := 16) wok53 cl53_1 cl53_2 cl53_3 cl53_4 cl53_5 cl53_6

/-! 54: stevedore/info.Drop$1 (1 parameters) -/
noncomputable def E54 : Env := { ty := ty, call := callOf ([(29, v29)]), news := newsOf [], mode := modeOf [(29, 1)], rows := false, keep := keepOf [(1, [4]), (0, [1, 2, 3])], loops := loopsOf [], boxes := boxesOf [] }
theorem ty54 : (E54).ty = ty := rfl
theorem call54 (f : Nat) (args : List V) (S : St) : (E54).call f args S = callOf ([(29, v29)]) f args S := rfl
theorem nw54 (f : Nat) : (E54).news f = newsOf [] f := rfl
theorem md54 (f : Nat) : (E54).mode f = modeOf [(29, 1)] f := rfl
theorem rw54 : (E54).rows = false := rfl
theorem kp54 (f : Nat) : (E54).keep f = keepOf [(1, [4]), (0, [1, 2, 3])] f := rfl
theorem lp54 (f : Nat) : (E54).loops f = loopsOf [] f := rfl
theorem bx54 (f : Nat) : (E54).boxes f = boxesOf [] f := rfl
noncomputable def v54 : Spec := fnSpec (E54) 1 Try.f54
theorem vv54 (args : List V) (S : St) : v54 args S = fnSpec (E54) 1 Try.f54 args S := rfl
def u54 := And.intro @vv54 (And.intro @ty54 (And.intro @call54 (And.intro @nw54 (And.intro @md54 (And.intro @rw54 (And.intro @kp54 (And.intro @lp54 (@bx54))))))))
theorem ok54 : SoundAt Try.prog 54 (v54) := soundAt_of mixed tyOk rfl (by intro p hp; simp only [List.cons_append, List.nil_append, List.mem_cons, List.mem_append, List.not_mem_nil, or_false] at hp; rcases hp with rfl <;> first | exact ok29) (f := 54) (fn := Try.f54) (by kernel_rfl) (by kernel_rfl) (by kernel_rfl) _

/-! 68: slices.IndexFunc[[]stevedore/api.Pod,stevedore/api.Pod] (2 parameters) -/
noncomputable def E68 (cl : List (Nat × Spec)) : Env := { ty := ty, call := callOf ([] ++ cl), news := newsOf [], mode := modeOf [], rows := false, keep := keepOf [(7, [4]), (6, [0, 1, 7, 8]), (5, [4]), (4, [0, 1, 5, 7, 8, 16]), (3, [0, 1, 5, 7, 8]), (2, [0, 1, 7, 8, 9]), (1, [0, 1, 7, 8]), (0, [0, 1])], loops := loopsOf [(2, ([0, 1, 7, 8], []))], boxes := boxesOf [] }
theorem ty68 (cl : List (Nat × Spec)) : (E68 cl).ty = ty := rfl
theorem call68 (cl : List (Nat × Spec)) (f : Nat) (args : List V) (S : St) : (E68 cl).call f args S = callOf ([] ++ cl) f args S := rfl
theorem nw68 (cl : List (Nat × Spec)) (f : Nat) : (E68 cl).news f = newsOf [] f := rfl
theorem md68 (cl : List (Nat × Spec)) (f : Nat) : (E68 cl).mode f = modeOf [] f := rfl
theorem rw68 (cl : List (Nat × Spec)) : (E68 cl).rows = false := rfl
theorem kp68 (cl : List (Nat × Spec)) (f : Nat) : (E68 cl).keep f = keepOf [(7, [4]), (6, [0, 1, 7, 8]), (5, [4]), (4, [0, 1, 5, 7, 8, 16]), (3, [0, 1, 5, 7, 8]), (2, [0, 1, 7, 8, 9]), (1, [0, 1, 7, 8]), (0, [0, 1])] f := rfl
theorem lp68 (cl : List (Nat × Spec)) (f : Nat) : (E68 cl).loops f = loopsOf [(2, ([0, 1, 7, 8], []))] f := rfl
theorem bx68 (cl : List (Nat × Spec)) (f : Nat) : (E68 cl).boxes f = boxesOf [] f := rfl
noncomputable def v68 (cl : List (Nat × Spec)) : Spec := fnSpec (E68 cl) 1 Try.f68
theorem vv68 (cl : List (Nat × Spec)) (args : List V) (S : St) : v68 cl args S = fnSpec (E68 cl) 1 Try.f68 args S := rfl
def u68 := And.intro @vv68 (And.intro @ty68 (And.intro @call68 (And.intro @nw68 (And.intro @md68 (And.intro @rw68 (And.intro @kp68 (And.intro @lp68 (@bx68))))))))
theorem ok68 (cl : List (Nat × Spec)) (hcl : ∀ p ∈ cl, SoundAt Try.prog p.1 p.2) : SoundAt Try.prog 68 (v68 cl) := soundAt_of mixed tyOk rfl (by intro p hp; simp only [List.cons_append, List.nil_append, List.mem_cons, List.mem_append, List.not_mem_nil, or_false] at hp; rcases hp with hp <;> first | exact hcl p hp) (f := 68) (fn := Try.f68) (by kernel_rfl) (by kernel_rfl) (by kernel_rfl) _

/-! 52: slices.DeleteFunc[[]stevedore/api.Pod,stevedore/api.Pod] (2 parameters) -/
noncomputable def E52 (cl : List (Nat × Spec)) : Env := { ty := ty, call := callOf ([(68, v68 cl)] ++ cl), news := newsOf [], mode := modeOf [], rows := false, keep := keepOf [(12, [4]), (11, [0, 5]), (6, [0, 1, 5, 6]), (10, [0, 1, 5, 6]), (9, [0, 1, 5, 6]), (8, [0, 1, 5, 6, 7, 29]), (7, [0, 1, 5, 6, 7]), (5, [0, 1, 5, 6, 19]), (4, [0, 1, 5, 6]), (3, [4]), (2, [0, 1, 5, 12]), (1, [0, 1, 5]), (0, [0, 1])], loops := loopsOf [(5, ([0, 1, 5, 6], []))], boxes := boxesOf [] }
theorem ty52 (cl : List (Nat × Spec)) : (E52 cl).ty = ty := rfl
theorem call52 (cl : List (Nat × Spec)) (f : Nat) (args : List V) (S : St) : (E52 cl).call f args S = callOf ([(68, v68 cl)] ++ cl) f args S := rfl
theorem nw52 (cl : List (Nat × Spec)) (f : Nat) : (E52 cl).news f = newsOf [] f := rfl
theorem md52 (cl : List (Nat × Spec)) (f : Nat) : (E52 cl).mode f = modeOf [] f := rfl
theorem rw52 (cl : List (Nat × Spec)) : (E52 cl).rows = false := rfl
theorem kp52 (cl : List (Nat × Spec)) (f : Nat) : (E52 cl).keep f = keepOf [(12, [4]), (11, [0, 5]), (6, [0, 1, 5, 6]), (10, [0, 1, 5, 6]), (9, [0, 1, 5, 6]), (8, [0, 1, 5, 6, 7, 29]), (7, [0, 1, 5, 6, 7]), (5, [0, 1, 5, 6, 19]), (4, [0, 1, 5, 6]), (3, [4]), (2, [0, 1, 5, 12]), (1, [0, 1, 5]), (0, [0, 1])] f := rfl
theorem lp52 (cl : List (Nat × Spec)) (f : Nat) : (E52 cl).loops f = loopsOf [(5, ([0, 1, 5, 6], []))] f := rfl
theorem bx52 (cl : List (Nat × Spec)) (f : Nat) : (E52 cl).boxes f = boxesOf [] f := rfl
noncomputable def v52 (cl : List (Nat × Spec)) : Spec := fnSpec (E52 cl) 1 Try.f52
theorem vv52 (cl : List (Nat × Spec)) (args : List V) (S : St) : v52 cl args S = fnSpec (E52 cl) 1 Try.f52 args S := rfl
def u52 := And.intro @vv52 (And.intro @ty52 (And.intro @call52 (And.intro @nw52 (And.intro @md52 (And.intro @rw52 (And.intro @kp52 (And.intro @lp52 (@bx52))))))))
theorem ok52 (cl : List (Nat × Spec)) (hcl : ∀ p ∈ cl, SoundAt Try.prog p.1 p.2) : SoundAt Try.prog 52 (v52 cl) := soundAt_of mixed tyOk rfl (by intro p hp; simp only [List.cons_append, List.nil_append, List.mem_cons, List.mem_append, List.not_mem_nil, or_false] at hp; rcases hp with rfl | hp <;> first | exact ok68 cl hcl | exact hcl p hp) (f := 52) (fn := Try.f52) (by kernel_rfl) (by kernel_rfl) (by kernel_rfl) _

/-! 26: stevedore/info.Drop (3 parameters) -/
noncomputable def E26 : Env := { ty := ty, call := callOf ([(29, v29), (53, v53), (54, v54), (52, v52 ([(54, v54)])), (9, v9)]), news := newsOf [(53, 1), (9, 3)], mode := modeOf [(29, 1)], rows := true, keep := keepOf [(4, [6, 7]), (3, [3, 6, 8]), (2, [6, 7]), (1, [2, 3, 4, 6, 14]), (0, [2, 3, 4, 6])], loops := loopsOf [], boxes := boxesOf [] }
theorem ty26 : (E26).ty = ty := rfl
theorem call26 (f : Nat) (args : List V) (S : St) : (E26).call f args S = callOf ([(29, v29), (53, v53), (54, v54), (52, v52 ([(54, v54)])), (9, v9)]) f args S := rfl
theorem nw26 (f : Nat) : (E26).news f = newsOf [(53, 1), (9, 3)] f := rfl
theorem md26 (f : Nat) : (E26).mode f = modeOf [(29, 1)] f := rfl
theorem rw26 : (E26).rows = true := rfl
theorem kp26 (f : Nat) : (E26).keep f = keepOf [(4, [6, 7]), (3, [3, 6, 8]), (2, [6, 7]), (1, [2, 3, 4, 6, 14]), (0, [2, 3, 4, 6])] f := rfl
theorem lp26 (f : Nat) : (E26).loops f = loopsOf [] f := rfl
theorem bx26 (f : Nat) : (E26).boxes f = boxesOf [] f := rfl
noncomputable def v26 : Spec := fnSpec (E26) 0 Try.f26
theorem vv26 (args : List V) (S : St) : v26 args S = fnSpec (E26) 0 Try.f26 args S := rfl
def u26 := And.intro @vv26 (And.intro @ty26 (And.intro @call26 (And.intro @nw26 (And.intro @md26 (And.intro @rw26 (And.intro @kp26 (And.intro @lp26 (@bx26))))))))
theorem ok26 : SoundAt Try.prog 26 (v26) := soundAt_of mixed tyOk rfl (by intro p hp; simp only [List.cons_append, List.nil_append, List.mem_cons, List.mem_append, List.not_mem_nil, or_false] at hp; rcases hp with rfl | rfl | rfl | rfl | rfl <;> first | exact ok29 | exact ok53 | exact ok54 | exact ok52 _ (fun p hp => by simp only [List.cons_append, List.nil_append, List.mem_cons, List.mem_append, List.not_mem_nil, or_false] at hp; rcases hp with rfl <;> first | exact ok54) | exact ok9) (f := 26) (fn := Try.f26) (by kernel_rfl) (by kernel_rfl) (by kernel_rfl) _

/-! 27: stevedore/stevedoreref06.Drop (3 parameters) -/
noncomputable def E27 : Env := { ty := ty, call := callOf ([(21, v21), (10, v10)]), news := newsOf [], mode := modeOf [(21, 1)], rows := false, keep := keepOf [(9, [6, 7]), (6, [2, 3, 4, 6, 8, 9]), (8, [2, 3, 4, 6, 8, 9]), (7, [2, 3, 4, 6, 8, 9, 41]), (5, [2, 3, 4, 6, 8, 9, 21]), (4, [2, 3, 4, 6, 8, 9]), (3, [2, 3, 4, 6, 8]), (2, [6, 7]), (1, [2, 3, 4, 6, 15]), (0, [2, 3, 4, 6])], loops := loopsOf [(5, ([2, 3, 4, 6, 8, 9], [(8, (37, 16))]))], boxes := boxesOf [] }
theorem ty27 : (E27).ty = ty := rfl
theorem call27 (f : Nat) (args : List V) (S : St) : (E27).call f args S = callOf ([(21, v21), (10, v10)]) f args S := rfl
theorem nw27 (f : Nat) : (E27).news f = newsOf [] f := rfl
theorem md27 (f : Nat) : (E27).mode f = modeOf [(21, 1)] f := rfl
theorem rw27 : (E27).rows = false := rfl
theorem kp27 (f : Nat) : (E27).keep f = keepOf [(9, [6, 7]), (6, [2, 3, 4, 6, 8, 9]), (8, [2, 3, 4, 6, 8, 9]), (7, [2, 3, 4, 6, 8, 9, 41]), (5, [2, 3, 4, 6, 8, 9, 21]), (4, [2, 3, 4, 6, 8, 9]), (3, [2, 3, 4, 6, 8]), (2, [6, 7]), (1, [2, 3, 4, 6, 15]), (0, [2, 3, 4, 6])] f := rfl
theorem lp27 (f : Nat) : (E27).loops f = loopsOf [(5, ([2, 3, 4, 6, 8, 9], [(8, (37, 16))]))] f := rfl
theorem bx27 (f : Nat) : (E27).boxes f = boxesOf [] f := rfl
noncomputable def v27 : Spec := fnSpec (E27) 1 Try.f27
theorem vv27 (args : List V) (S : St) : v27 args S = fnSpec (E27) 1 Try.f27 args S := rfl
def u27 := And.intro @vv27 (And.intro @ty27 (And.intro @call27 (And.intro @nw27 (And.intro @md27 (And.intro @rw27 (And.intro @kp27 (And.intro @lp27 (@bx27))))))))
theorem ok27 : SoundAt Try.prog 27 (v27) := soundAt_of mixed tyOk rfl (by intro p hp; simp only [List.cons_append, List.nil_append, List.mem_cons, List.mem_append, List.not_mem_nil, or_false] at hp; rcases hp with rfl | rfl <;> first | exact ok21 | exact ok10) (f := 27) (fn := Try.f27) (by kernel_rfl) (by kernel_rfl) (by kernel_rfl) _

/-! 5: stevedore/stevedorelaw06.InfoTurns (4 parameters) -/
noncomputable def E5 : Env := { ty := ty, call := callOf ([(9, v9), (10, v10), (24, v24), (23, v23), (25, v25), (7, v7), (26, v26), (27, v27), (11, v11), (16, v16), (19, v19)]), news := newsOf [(9, 3), (23, 3), (7, 1), (26, 3)], mode := modeOf [(11, 1)], rows := false, keep := keepOf [(11, [8]), (10, [9, 10]), (9, [9, 10, 15]), (8, [8]), (7, [9, 10, 11, 15, 73]), (6, [9, 10, 11, 12, 13, 14, 15, 16, 17, 18]), (5, [3, 6, 9, 10, 11, 12, 13, 14, 15, 16]), (4, [3, 6, 9, 10, 11, 12, 13, 14]), (3, [3, 6, 9, 10, 11, 12]), (2, [3, 6, 9, 10]), (1, [1, 3, 4, 6, 9]), (0, [1, 3, 4, 6])], loops := loopsOf [], boxes := boxesOf [] }
theorem ty5 : (E5).ty = ty := rfl
theorem call5 (f : Nat) (args : List V) (S : St) : (E5).call f args S = callOf ([(9, v9), (10, v10), (24, v24), (23, v23), (25, v25), (7, v7), (26, v26), (27, v27), (11, v11), (16, v16), (19, v19)]) f args S := rfl
theorem nw5 (f : Nat) : (E5).news f = newsOf [(9, 3), (23, 3), (7, 1), (26, 3)] f := rfl
theorem md5 (f : Nat) : (E5).mode f = modeOf [(11, 1)] f := rfl
theorem rw5 : (E5).rows = false := rfl
theorem kp5 (f : Nat) : (E5).keep f = keepOf [(11, [8]), (10, [9, 10]), (9, [9, 10, 15]), (8, [8]), (7, [9, 10, 11, 15, 73]), (6, [9, 10, 11, 12, 13, 14, 15, 16, 17, 18]), (5, [3, 6, 9, 10, 11, 12, 13, 14, 15, 16]), (4, [3, 6, 9, 10, 11, 12, 13, 14]), (3, [3, 6, 9, 10, 11, 12]), (2, [3, 6, 9, 10]), (1, [1, 3, 4, 6, 9]), (0, [1, 3, 4, 6])] f := rfl
theorem lp5 (f : Nat) : (E5).loops f = loopsOf [] f := rfl
theorem bx5 (f : Nat) : (E5).boxes f = boxesOf [] f := rfl
noncomputable def v5 : Spec := fnSpec (E5) 1 Try.f5
theorem vv5 (args : List V) (S : St) : v5 args S = fnSpec (E5) 1 Try.f5 args S := rfl
def u5 := And.intro @vv5 (And.intro @ty5 (And.intro @call5 (And.intro @nw5 (And.intro @md5 (And.intro @rw5 (And.intro @kp5 (And.intro @lp5 (@bx5))))))))
theorem ok5 : SoundAt Try.prog 5 (v5) := soundAt_of mixed tyOk rfl (by intro p hp; simp only [List.cons_append, List.nil_append, List.mem_cons, List.mem_append, List.not_mem_nil, or_false] at hp; rcases hp with rfl | rfl | rfl | rfl | rfl | rfl | rfl | rfl | rfl | rfl | rfl <;> first | exact ok9 | exact ok10 | exact ok24 | exact ok23 | exact ok25 | exact ok7 | exact ok26 | exact ok27 | exact ok11 | exact ok16 | exact ok19) (f := 5) (fn := Try.f5) (by kernel_rfl) (by kernel_rfl) (by kernel_rfl) _

/-! 6: stevedore/stevedorelaw06.InfoBack (3 parameters) -/
noncomputable def E6 : Env := { ty := ty, call := callOf ([(19, v19), (9, v9), (23, v23), (21, v21), (7, v7), (26, v26), (11, v11)]), news := newsOf [(9, 3), (23, 3), (7, 1), (26, 3)], mode := modeOf [(21, 1), (11, 1)], rows := false, keep := keepOf [(8, [6]), (7, [5, 7, 8, 10, 11]), (6, [6]), (5, [1, 5, 7, 8, 9, 24]), (4, [1, 5, 7, 8, 9]), (3, [1, 5, 7]), (2, [6]), (1, [1, 3, 5, 13]), (0, [1, 3, 5])], loops := loopsOf [], boxes := boxesOf [] }
theorem ty6 : (E6).ty = ty := rfl
theorem call6 (f : Nat) (args : List V) (S : St) : (E6).call f args S = callOf ([(19, v19), (9, v9), (23, v23), (21, v21), (7, v7), (26, v26), (11, v11)]) f args S := rfl
theorem nw6 (f : Nat) : (E6).news f = newsOf [(9, 3), (23, 3), (7, 1), (26, 3)] f := rfl
theorem md6 (f : Nat) : (E6).mode f = modeOf [(21, 1), (11, 1)] f := rfl
theorem rw6 : (E6).rows = false := rfl
theorem kp6 (f : Nat) : (E6).keep f = keepOf [(8, [6]), (7, [5, 7, 8, 10, 11]), (6, [6]), (5, [1, 5, 7, 8, 9, 24]), (4, [1, 5, 7, 8, 9]), (3, [1, 5, 7]), (2, [6]), (1, [1, 3, 5, 13]), (0, [1, 3, 5])] f := rfl
theorem lp6 (f : Nat) : (E6).loops f = loopsOf [] f := rfl
theorem bx6 (f : Nat) : (E6).boxes f = boxesOf [] f := rfl
noncomputable def v6 : Spec := fnSpec (E6) 1 Try.f6
theorem vv6 (args : List V) (S : St) : v6 args S = fnSpec (E6) 1 Try.f6 args S := rfl
def u6 := And.intro @vv6 (And.intro @ty6 (And.intro @call6 (And.intro @nw6 (And.intro @md6 (And.intro @rw6 (And.intro @kp6 (And.intro @lp6 (@bx6))))))))
theorem ok6 : SoundAt Try.prog 6 (v6) := soundAt_of mixed tyOk rfl (by intro p hp; simp only [List.cons_append, List.nil_append, List.mem_cons, List.mem_append, List.not_mem_nil, or_false] at hp; rcases hp with rfl | rfl | rfl | rfl | rfl | rfl | rfl <;> first | exact ok19 | exact ok9 | exact ok23 | exact ok21 | exact ok7 | exact ok26 | exact ok11) (f := 6) (fn := Try.f6) (by kernel_rfl) (by kernel_rfl) (by kernel_rfl) _
end Go.Wm.Try1
