/-
  No cell of these rows narrows 'for every input' (looked for: loops, veiled, ifaces, maps, wideKeys, modest, calm, conditions, laid).
  DERIVED. THE GIVEN ROWS OF THIS SEAT. 11 by the template 'for every input the law returns true; each argument reads behind the call as it read before'; 0 by the template 'total and deterministic' (their statements: YtfopbbeieegfcaaTotals.lean).
  GIVEN WITH THE SEED: the statements are not yours to turn. If you find one false, say at which input.
  Laid BY PROGRAM, IN A SANDBOX (cutbox-rows.mjs): the forced cells as the released guide's own fill.sh prints them over the translation 88545d2ccf0e249c… (all of the seat's roots in one cut). By AI agents, Wed Nov 11 2026. No macro, syntax, notation, axiom, sorry.
-/
import Derived.Test.YtfopbbeieegfcaaChecked
import GoSem.Claim
import GoSem.ClaimJoined
import GoSem.ClaimMapViews
import Derived.JoinedTies
import Derived.KernelRfl
namespace Go.Proofs.Ytfopbbeieegfcaa
/- THE CELL 'sum', in the pinned program and in every row, IS THE sha256 OF THE DUMP (.gsa) THAT YtfopbbeieegfcaaProg.lean LOADS. Nothing in Lean hashes anything: it is a label: what it is worth is what the hold of that sum in a sandbox is worth. -/
noncomputable def Try.pinned : Pinned := { name := "ytfopbbeieegfcaa", sum := "88545d2ccf0e249cbd83f2b52d829bf844007f81353ecbedd51873ab4cb90b27", checked := Try.checked }
namespace Rows
def none {H : Type} : Left H := { results := [], args := [] }

/-- 'stevedorelaw13.WatchOrder': WHATEVER THE INPUT: true; the input reads as it did. -/
def watchOrderSpec : ChangeSpec := { name := "watchOrder", fn := fun _ => fun
  | [d1, d2, d3] => { results := [.lit (.bool true)], args := [d1, d2, d3] }
  | _ => none }
def watchOrderRow : OpenClaim := { program := "ytfopbbeieegfcaa", sum := "88545d2ccf0e249cbd83f2b52d829bf844007f81353ecbedd51873ab4cb90b27", func := "stevedore/stevedorelaw13.WatchOrder", spec := "watchOrder", unfollowed := true, recurses := true, apart := false }
def WatchOrderSaid : Prop := watchOrderRow.holds Try.pinned (OpenSpec.ofChange watchOrderSpec)

/-- ITS FALSE NEIGHBOUR: 'it returns false'. Refute it at one input. -/
def watchOrderWrong : ChangeSpec := { name := "watchOrder", fn := fun _ => fun
  | [d1, d2, d3] => { results := [.lit (.bool false)], args := [d1, d2, d3] }
  | _ => none }
def WatchOrderWrongFalsely : Prop := watchOrderRow.holds Try.pinned (OpenSpec.ofChange watchOrderWrong)

/-- 'stevedorelaw13.WatchBehind': WHATEVER THE INPUT: true; the input reads as it did. -/
def watchBehindSpec : ChangeSpec := { name := "watchBehind", fn := fun _ => fun
  | [d1, d2, d3] => { results := [.lit (.bool true)], args := [d1, d2, d3] }
  | _ => none }
def watchBehindRow : OpenClaim := { program := "ytfopbbeieegfcaa", sum := "88545d2ccf0e249cbd83f2b52d829bf844007f81353ecbedd51873ab4cb90b27", func := "stevedore/stevedorelaw13.WatchBehind", spec := "watchBehind", unfollowed := true, recurses := true, apart := false }
def WatchBehindSaid : Prop := watchBehindRow.holds Try.pinned (OpenSpec.ofChange watchBehindSpec)

/-- ITS FALSE NEIGHBOUR: 'it returns false'. Refute it at one input. -/
def watchBehindWrong : ChangeSpec := { name := "watchBehind", fn := fun _ => fun
  | [d1, d2, d3] => { results := [.lit (.bool false)], args := [d1, d2, d3] }
  | _ => none }
def WatchBehindWrongFalsely : Prop := watchBehindRow.holds Try.pinned (OpenSpec.ofChange watchBehindWrong)

/-- 'stevedorelaw20.TaskDone': WHATEVER THE INPUT: true; the input reads as it did. -/
def taskDoneSpec : ChangeSpec := { name := "taskDone", fn := fun _ => fun
  | [d1, d2] => { results := [.lit (.bool true)], args := [d1, d2] }
  | _ => none }
def taskDoneRow : OpenClaim := { program := "ytfopbbeieegfcaa", sum := "88545d2ccf0e249cbd83f2b52d829bf844007f81353ecbedd51873ab4cb90b27", func := "stevedore/stevedorelaw20.TaskDone", spec := "taskDone", unfollowed := true, recurses := true, apart := false }
def TaskDoneSaid : Prop := taskDoneRow.holds Try.pinned (OpenSpec.ofChange taskDoneSpec)

/-- ITS FALSE NEIGHBOUR: 'it returns false'. Refute it at one input. -/
def taskDoneWrong : ChangeSpec := { name := "taskDone", fn := fun _ => fun
  | [d1, d2] => { results := [.lit (.bool false)], args := [d1, d2] }
  | _ => none }
def TaskDoneWrongFalsely : Prop := taskDoneRow.holds Try.pinned (OpenSpec.ofChange taskDoneWrong)

/-- 'stevedorelaw20.TaskEnds': WHATEVER THE INPUT: true; the input reads as it did. -/
def taskEndsSpec : ChangeSpec := { name := "taskEnds", fn := fun _ => fun
  | [d1, d2, d3] => { results := [.lit (.bool true)], args := [d1, d2, d3] }
  | _ => none }
def taskEndsRow : OpenClaim := { program := "ytfopbbeieegfcaa", sum := "88545d2ccf0e249cbd83f2b52d829bf844007f81353ecbedd51873ab4cb90b27", func := "stevedore/stevedorelaw20.TaskEnds", spec := "taskEnds", unfollowed := true, recurses := true, apart := false }
def TaskEndsSaid : Prop := taskEndsRow.holds Try.pinned (OpenSpec.ofChange taskEndsSpec)

/-- ITS FALSE NEIGHBOUR: 'it returns false'. Refute it at one input. -/
def taskEndsWrong : ChangeSpec := { name := "taskEnds", fn := fun _ => fun
  | [d1, d2, d3] => { results := [.lit (.bool false)], args := [d1, d2, d3] }
  | _ => none }
def TaskEndsWrongFalsely : Prop := taskEndsRow.holds Try.pinned (OpenSpec.ofChange taskEndsWrong)

/-- 'stevedorelaw20.TaskDrops': WHATEVER THE INPUT: true; the input reads as it did. -/
def taskDropsSpec : ChangeSpec := { name := "taskDrops", fn := fun _ => fun
  | [d1, d2] => { results := [.lit (.bool true)], args := [d1, d2] }
  | _ => none }
def taskDropsRow : OpenClaim := { program := "ytfopbbeieegfcaa", sum := "88545d2ccf0e249cbd83f2b52d829bf844007f81353ecbedd51873ab4cb90b27", func := "stevedore/stevedorelaw20.TaskDrops", spec := "taskDrops", unfollowed := true, recurses := true, apart := false }
def TaskDropsSaid : Prop := taskDropsRow.holds Try.pinned (OpenSpec.ofChange taskDropsSpec)

/-- ITS FALSE NEIGHBOUR: 'it returns false'. Refute it at one input. -/
def taskDropsWrong : ChangeSpec := { name := "taskDrops", fn := fun _ => fun
  | [d1, d2] => { results := [.lit (.bool false)], args := [d1, d2] }
  | _ => none }
def TaskDropsWrongFalsely : Prop := taskDropsRow.holds Try.pinned (OpenSpec.ofChange taskDropsWrong)

/-- 'stevedorelaw13.WatchApart': WHATEVER THE INPUT: true; the input reads as it did. -/
def watchApartSpec : ChangeSpec := { name := "watchApart", fn := fun _ => fun
  | [d1, d2, d3, d4] => { results := [.lit (.bool true)], args := [d1, d2, d3, d4] }
  | _ => none }
def watchApartRow : OpenClaim := { program := "ytfopbbeieegfcaa", sum := "88545d2ccf0e249cbd83f2b52d829bf844007f81353ecbedd51873ab4cb90b27", func := "stevedore/stevedorelaw13.WatchApart", spec := "watchApart", unfollowed := true, recurses := true, apart := false }
def WatchApartSaid : Prop := watchApartRow.holds Try.pinned (OpenSpec.ofChange watchApartSpec)

/-- ITS FALSE NEIGHBOUR: 'it returns false'. Refute it at one input. -/
def watchApartWrong : ChangeSpec := { name := "watchApart", fn := fun _ => fun
  | [d1, d2, d3, d4] => { results := [.lit (.bool false)], args := [d1, d2, d3, d4] }
  | _ => none }
def WatchApartWrongFalsely : Prop := watchApartRow.holds Try.pinned (OpenSpec.ofChange watchApartWrong)

/-- 'stevedorelaw13.WatchLists': WHATEVER THE INPUT: true; the input reads as it did. -/
def watchListsSpec : ChangeSpec := { name := "watchLists", fn := fun _ => fun
  | [d1, d2, d3, d4] => { results := [.lit (.bool true)], args := [d1, d2, d3, d4] }
  | _ => none }
def watchListsRow : OpenClaim := { program := "ytfopbbeieegfcaa", sum := "88545d2ccf0e249cbd83f2b52d829bf844007f81353ecbedd51873ab4cb90b27", func := "stevedore/stevedorelaw13.WatchLists", spec := "watchLists", unfollowed := true, recurses := true, apart := false }
def WatchListsSaid : Prop := watchListsRow.holds Try.pinned (OpenSpec.ofChange watchListsSpec)

/-- ITS FALSE NEIGHBOUR: 'it returns false'. Refute it at one input. -/
def watchListsWrong : ChangeSpec := { name := "watchLists", fn := fun _ => fun
  | [d1, d2, d3, d4] => { results := [.lit (.bool false)], args := [d1, d2, d3, d4] }
  | _ => none }
def WatchListsWrongFalsely : Prop := watchListsRow.holds Try.pinned (OpenSpec.ofChange watchListsWrong)

/-- 'stevedorelaw13.WatchPlays': WHATEVER THE INPUT: true; the input reads as it did. -/
def watchPlaysSpec : ChangeSpec := { name := "watchPlays", fn := fun _ => fun
  | [d1, d2, d3] => { results := [.lit (.bool true)], args := [d1, d2, d3] }
  | _ => none }
def watchPlaysRow : OpenClaim := { program := "ytfopbbeieegfcaa", sum := "88545d2ccf0e249cbd83f2b52d829bf844007f81353ecbedd51873ab4cb90b27", func := "stevedore/stevedorelaw13.WatchPlays", spec := "watchPlays", unfollowed := true, recurses := true, apart := false }
def WatchPlaysSaid : Prop := watchPlaysRow.holds Try.pinned (OpenSpec.ofChange watchPlaysSpec)

/-- ITS FALSE NEIGHBOUR: 'it returns false'. Refute it at one input. -/
def watchPlaysWrong : ChangeSpec := { name := "watchPlays", fn := fun _ => fun
  | [d1, d2, d3] => { results := [.lit (.bool false)], args := [d1, d2, d3] }
  | _ => none }
def WatchPlaysWrongFalsely : Prop := watchPlaysRow.holds Try.pinned (OpenSpec.ofChange watchPlaysWrong)

/-- 'stevedorelaw13.WatchNone': WHATEVER THE INPUT: true; the input reads as it did. -/
def watchNoneSpec : ChangeSpec := { name := "watchNone", fn := fun _ => fun
  | [d] => { results := [.lit (.bool true)], args := [d] }
  | _ => none }
def watchNoneRow : OpenClaim := { program := "ytfopbbeieegfcaa", sum := "88545d2ccf0e249cbd83f2b52d829bf844007f81353ecbedd51873ab4cb90b27", func := "stevedore/stevedorelaw13.WatchNone", spec := "watchNone", unfollowed := true, recurses := true, apart := false }
def WatchNoneSaid : Prop := watchNoneRow.holds Try.pinned (OpenSpec.ofChange watchNoneSpec)

/-- ITS FALSE NEIGHBOUR: 'it returns false'. Refute it at one input. -/
def watchNoneWrong : ChangeSpec := { name := "watchNone", fn := fun _ => fun
  | [d] => { results := [.lit (.bool false)], args := [d] }
  | _ => none }
def WatchNoneWrongFalsely : Prop := watchNoneRow.holds Try.pinned (OpenSpec.ofChange watchNoneWrong)

/-- 'stevedorelaw20.TaskPlays': WHATEVER THE INPUT: true; the input reads as it did. -/
def taskPlaysSpec : ChangeSpec := { name := "taskPlays", fn := fun _ => fun
  | [d1, d2] => { results := [.lit (.bool true)], args := [d1, d2] }
  | _ => none }
def taskPlaysRow : OpenClaim := { program := "ytfopbbeieegfcaa", sum := "88545d2ccf0e249cbd83f2b52d829bf844007f81353ecbedd51873ab4cb90b27", func := "stevedore/stevedorelaw20.TaskPlays", spec := "taskPlays", unfollowed := true, recurses := true, apart := false }
def TaskPlaysSaid : Prop := taskPlaysRow.holds Try.pinned (OpenSpec.ofChange taskPlaysSpec)

/-- ITS FALSE NEIGHBOUR: 'it returns false'. Refute it at one input. -/
def taskPlaysWrong : ChangeSpec := { name := "taskPlays", fn := fun _ => fun
  | [d1, d2] => { results := [.lit (.bool false)], args := [d1, d2] }
  | _ => none }
def TaskPlaysWrongFalsely : Prop := taskPlaysRow.holds Try.pinned (OpenSpec.ofChange taskPlaysWrong)

/-- 'stevedorelaw20.TaskNone': WHATEVER THE INPUT: true; the input reads as it did. -/
def taskNoneSpec : ChangeSpec := { name := "taskNone", fn := fun _ => fun
  | [d] => { results := [.lit (.bool true)], args := [d] }
  | _ => none }
def taskNoneRow : OpenClaim := { program := "ytfopbbeieegfcaa", sum := "88545d2ccf0e249cbd83f2b52d829bf844007f81353ecbedd51873ab4cb90b27", func := "stevedore/stevedorelaw20.TaskNone", spec := "taskNone", unfollowed := true, recurses := true, apart := false }
def TaskNoneSaid : Prop := taskNoneRow.holds Try.pinned (OpenSpec.ofChange taskNoneSpec)

/-- ITS FALSE NEIGHBOUR: 'it returns false'. Refute it at one input. -/
def taskNoneWrong : ChangeSpec := { name := "taskNone", fn := fun _ => fun
  | [d] => { results := [.lit (.bool false)], args := [d] }
  | _ => none }
def TaskNoneWrongFalsely : Prop := taskNoneRow.holds Try.pinned (OpenSpec.ofChange taskNoneWrong)

/- THE SECOND FORM. 'bulk': how many values and letters a reading holds, each counted each time it is reached (what is shared counts as often as it is met; a slice's spare places count too). A statement '..UptoSaid' is the law's where the arguments, and the package variables that the reading takes, are together of bulk at most 1048576: NARROWER than '..Said'. Prove '..Said' where nothing that the law and all that it calls make is longer than what came in: it says more and counts as full. Else prove '..UptoSaid'. A law counts once. -/
mutual
def uptoBulk {H : Type} : DataW H → Nat
  | .lit (.string bytes) => bytes.length + 1
  | .lit _ => 1
  | .nil => 1
  | .ptr d => uptoBulk d + 1
  | .slice elems spare => uptoBulkAll elems + uptoBulkAll spare + 1
  | .agg parts => uptoBulkAll parts + 1
  | .iface _ d => uptoBulk d + 1
  | .map entries => uptoBulkEntries entries + 1
  | .held _ => 1
def uptoBulkAll {H : Type} : List (DataW H) → Nat
  | [] => 0
  | d :: r => uptoBulk d + uptoBulkAll r
def uptoBulkEntries {H : Type} : List (Lit × DataW H) → Nat
  | [] => 0
  | x :: r => uptoBulkEntry x + uptoBulkEntries r
def uptoBulkEntry {H : Type} : Lit × DataW H → Nat
  | (.string bytes, d) => bytes.length + uptoBulk d + 1
  | (_, d) => uptoBulk d + 1
 end
def uptoSmall : (H : Type) → List (DataW H) → Bool := fun _ ds => decide (uptoBulkAll ds ≤ 1048576)
def OpenSpec.upto (s : _root_.Go.ChangeSpec) : _root_.Go.OpenSpec := { _root_.Go.OpenSpec.ofChange s with cond := some uptoSmall }

/-- 'stevedorelaw13.WatchOrder', WHERE WHAT IT READS IS OF BULK AT MOST 1048576: true; the input reads as it did. -/
def watchOrderUptoRow : OpenClaim := { program := "ytfopbbeieegfcaa", sum := "88545d2ccf0e249cbd83f2b52d829bf844007f81353ecbedd51873ab4cb90b27", func := "stevedore/stevedorelaw13.WatchOrder", spec := "watchOrder", unfollowed := true, recurses := true, apart := false, narrowed := true }
def WatchOrderUptoSaid : Prop := watchOrderUptoRow.holds Try.pinned (OpenSpec.upto watchOrderSpec)

/-- 'stevedorelaw13.WatchBehind', WHERE WHAT IT READS IS OF BULK AT MOST 1048576: true; the input reads as it did. -/
def watchBehindUptoRow : OpenClaim := { program := "ytfopbbeieegfcaa", sum := "88545d2ccf0e249cbd83f2b52d829bf844007f81353ecbedd51873ab4cb90b27", func := "stevedore/stevedorelaw13.WatchBehind", spec := "watchBehind", unfollowed := true, recurses := true, apart := false, narrowed := true }
def WatchBehindUptoSaid : Prop := watchBehindUptoRow.holds Try.pinned (OpenSpec.upto watchBehindSpec)

/-- 'stevedorelaw20.TaskDone', WHERE WHAT IT READS IS OF BULK AT MOST 1048576: true; the input reads as it did. -/
def taskDoneUptoRow : OpenClaim := { program := "ytfopbbeieegfcaa", sum := "88545d2ccf0e249cbd83f2b52d829bf844007f81353ecbedd51873ab4cb90b27", func := "stevedore/stevedorelaw20.TaskDone", spec := "taskDone", unfollowed := true, recurses := true, apart := false, narrowed := true }
def TaskDoneUptoSaid : Prop := taskDoneUptoRow.holds Try.pinned (OpenSpec.upto taskDoneSpec)

/-- 'stevedorelaw20.TaskEnds', WHERE WHAT IT READS IS OF BULK AT MOST 1048576: true; the input reads as it did. -/
def taskEndsUptoRow : OpenClaim := { program := "ytfopbbeieegfcaa", sum := "88545d2ccf0e249cbd83f2b52d829bf844007f81353ecbedd51873ab4cb90b27", func := "stevedore/stevedorelaw20.TaskEnds", spec := "taskEnds", unfollowed := true, recurses := true, apart := false, narrowed := true }
def TaskEndsUptoSaid : Prop := taskEndsUptoRow.holds Try.pinned (OpenSpec.upto taskEndsSpec)

/-- 'stevedorelaw20.TaskDrops', WHERE WHAT IT READS IS OF BULK AT MOST 1048576: true; the input reads as it did. -/
def taskDropsUptoRow : OpenClaim := { program := "ytfopbbeieegfcaa", sum := "88545d2ccf0e249cbd83f2b52d829bf844007f81353ecbedd51873ab4cb90b27", func := "stevedore/stevedorelaw20.TaskDrops", spec := "taskDrops", unfollowed := true, recurses := true, apart := false, narrowed := true }
def TaskDropsUptoSaid : Prop := taskDropsUptoRow.holds Try.pinned (OpenSpec.upto taskDropsSpec)

/-- 'stevedorelaw13.WatchApart', WHERE WHAT IT READS IS OF BULK AT MOST 1048576: true; the input reads as it did. -/
def watchApartUptoRow : OpenClaim := { program := "ytfopbbeieegfcaa", sum := "88545d2ccf0e249cbd83f2b52d829bf844007f81353ecbedd51873ab4cb90b27", func := "stevedore/stevedorelaw13.WatchApart", spec := "watchApart", unfollowed := true, recurses := true, apart := false, narrowed := true }
def WatchApartUptoSaid : Prop := watchApartUptoRow.holds Try.pinned (OpenSpec.upto watchApartSpec)

/-- 'stevedorelaw13.WatchLists', WHERE WHAT IT READS IS OF BULK AT MOST 1048576: true; the input reads as it did. -/
def watchListsUptoRow : OpenClaim := { program := "ytfopbbeieegfcaa", sum := "88545d2ccf0e249cbd83f2b52d829bf844007f81353ecbedd51873ab4cb90b27", func := "stevedore/stevedorelaw13.WatchLists", spec := "watchLists", unfollowed := true, recurses := true, apart := false, narrowed := true }
def WatchListsUptoSaid : Prop := watchListsUptoRow.holds Try.pinned (OpenSpec.upto watchListsSpec)

/-- 'stevedorelaw13.WatchPlays', WHERE WHAT IT READS IS OF BULK AT MOST 1048576: true; the input reads as it did. -/
def watchPlaysUptoRow : OpenClaim := { program := "ytfopbbeieegfcaa", sum := "88545d2ccf0e249cbd83f2b52d829bf844007f81353ecbedd51873ab4cb90b27", func := "stevedore/stevedorelaw13.WatchPlays", spec := "watchPlays", unfollowed := true, recurses := true, apart := false, narrowed := true }
def WatchPlaysUptoSaid : Prop := watchPlaysUptoRow.holds Try.pinned (OpenSpec.upto watchPlaysSpec)

/-- 'stevedorelaw13.WatchNone', WHERE WHAT IT READS IS OF BULK AT MOST 1048576: true; the input reads as it did. -/
def watchNoneUptoRow : OpenClaim := { program := "ytfopbbeieegfcaa", sum := "88545d2ccf0e249cbd83f2b52d829bf844007f81353ecbedd51873ab4cb90b27", func := "stevedore/stevedorelaw13.WatchNone", spec := "watchNone", unfollowed := true, recurses := true, apart := false, narrowed := true }
def WatchNoneUptoSaid : Prop := watchNoneUptoRow.holds Try.pinned (OpenSpec.upto watchNoneSpec)

/-- 'stevedorelaw20.TaskPlays', WHERE WHAT IT READS IS OF BULK AT MOST 1048576: true; the input reads as it did. -/
def taskPlaysUptoRow : OpenClaim := { program := "ytfopbbeieegfcaa", sum := "88545d2ccf0e249cbd83f2b52d829bf844007f81353ecbedd51873ab4cb90b27", func := "stevedore/stevedorelaw20.TaskPlays", spec := "taskPlays", unfollowed := true, recurses := true, apart := false, narrowed := true }
def TaskPlaysUptoSaid : Prop := taskPlaysUptoRow.holds Try.pinned (OpenSpec.upto taskPlaysSpec)

/-- 'stevedorelaw20.TaskNone', WHERE WHAT IT READS IS OF BULK AT MOST 1048576: true; the input reads as it did. -/
def taskNoneUptoRow : OpenClaim := { program := "ytfopbbeieegfcaa", sum := "88545d2ccf0e249cbd83f2b52d829bf844007f81353ecbedd51873ab4cb90b27", func := "stevedore/stevedorelaw20.TaskNone", spec := "taskNone", unfollowed := true, recurses := true, apart := false, narrowed := true }
def TaskNoneUptoSaid : Prop := taskNoneUptoRow.holds Try.pinned (OpenSpec.upto taskNoneSpec)

end Rows
end Go.Proofs.Ytfopbbeieegfcaa
