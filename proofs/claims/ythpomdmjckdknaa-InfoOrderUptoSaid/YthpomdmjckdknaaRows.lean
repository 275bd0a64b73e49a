/-
  No cell of these rows narrows 'for every input' (looked for: loops, veiled, ifaces, maps, wideKeys, modest, calm, conditions, laid).
  DERIVED. THE GIVEN ROWS OF THIS SEAT. 4 by the template 'for every input the law returns true; each argument reads behind the call as it read before'; 0 by the template 'total and deterministic' (their statements: YthpomdmjckdknaaTotals.lean).
  GIVEN WITH THE SEED: the statements are not yours to turn. If you find one false, say at which input.
  Laid BY PROGRAM, IN A SANDBOX (cutbox-rows.mjs): the forced cells as the released guide's own fill.sh prints them over the translation ce4c3a6324def135… (all of the seat's roots in one cut). By AI agents, Wed Nov 11 2026. No macro, syntax, notation, axiom, sorry.
-/
import Derived.Test.YthpomdmjckdknaaChecked
import GoSem.Claim
import GoSem.ClaimJoined
import GoSem.ClaimMapViews
import Derived.JoinedTies
import Derived.KernelRfl
namespace Go.Proofs.Ythpomdmjckdknaa
/- THE CELL 'sum', in the pinned program and in every row, IS THE sha256 OF THE DUMP (.gsa) THAT YthpomdmjckdknaaProg.lean LOADS. Nothing in Lean hashes anything: it is a label: what it is worth is what the hold of that sum in a sandbox is worth. -/
noncomputable def Try.pinned : Pinned := { name := "ythpomdmjckdknaa", sum := "ce4c3a6324def135086eae29d867b36a083d547e8518b52b140e7b35b3441fe4", checked := Try.checked }
namespace Rows
def none {H : Type} : Left H := { results := [], args := [] }

/-- 'stevedorelaw06.InfoMakes': WHATEVER THE INPUT: true; the input reads as it did. -/
def infoMakesSpec : ChangeSpec := { name := "infoMakes", fn := fun _ => fun
  | [d1, d2, d3] => { results := [.lit (.bool true)], args := [d1, d2, d3] }
  | _ => none }
def infoMakesRow : OpenClaim := { program := "ythpomdmjckdknaa", sum := "ce4c3a6324def135086eae29d867b36a083d547e8518b52b140e7b35b3441fe4", func := "stevedore/stevedorelaw06.InfoMakes", spec := "infoMakes", unfollowed := true, recurses := true, apart := false }
def InfoMakesSaid : Prop := infoMakesRow.holds Try.pinned (OpenSpec.ofChange infoMakesSpec)

/-- ITS FALSE NEIGHBOUR: 'it returns false'. Refute it at one input. -/
def infoMakesWrong : ChangeSpec := { name := "infoMakes", fn := fun _ => fun
  | [d1, d2, d3] => { results := [.lit (.bool false)], args := [d1, d2, d3] }
  | _ => none }
def InfoMakesWrongFalsely : Prop := infoMakesRow.holds Try.pinned (OpenSpec.ofChange infoMakesWrong)

/-- 'stevedorelaw06.InfoOrder': WHATEVER THE INPUT: true; the input reads as it did. -/
def infoOrderSpec : ChangeSpec := { name := "infoOrder", fn := fun _ => fun
  | [d1, d2, d3] => { results := [.lit (.bool true)], args := [d1, d2, d3] }
  | _ => none }
def infoOrderRow : OpenClaim := { program := "ythpomdmjckdknaa", sum := "ce4c3a6324def135086eae29d867b36a083d547e8518b52b140e7b35b3441fe4", func := "stevedore/stevedorelaw06.InfoOrder", spec := "infoOrder", unfollowed := true, recurses := true, apart := false }
def InfoOrderSaid : Prop := infoOrderRow.holds Try.pinned (OpenSpec.ofChange infoOrderSpec)

/-- ITS FALSE NEIGHBOUR: 'it returns false'. Refute it at one input. -/
def infoOrderWrong : ChangeSpec := { name := "infoOrder", fn := fun _ => fun
  | [d1, d2, d3] => { results := [.lit (.bool false)], args := [d1, d2, d3] }
  | _ => none }
def InfoOrderWrongFalsely : Prop := infoOrderRow.holds Try.pinned (OpenSpec.ofChange infoOrderWrong)

/-- 'stevedorelaw06.InfoTurns': WHATEVER THE INPUT: true; the input reads as it did. -/
def infoTurnsSpec : ChangeSpec := { name := "infoTurns", fn := fun _ => fun
  | [d1, d2, d3, d4] => { results := [.lit (.bool true)], args := [d1, d2, d3, d4] }
  | _ => none }
def infoTurnsRow : OpenClaim := { program := "ythpomdmjckdknaa", sum := "ce4c3a6324def135086eae29d867b36a083d547e8518b52b140e7b35b3441fe4", func := "stevedore/stevedorelaw06.InfoTurns", spec := "infoTurns", unfollowed := true, recurses := true, apart := false }
def InfoTurnsSaid : Prop := infoTurnsRow.holds Try.pinned (OpenSpec.ofChange infoTurnsSpec)

/-- ITS FALSE NEIGHBOUR: 'it returns false'. Refute it at one input. -/
def infoTurnsWrong : ChangeSpec := { name := "infoTurns", fn := fun _ => fun
  | [d1, d2, d3, d4] => { results := [.lit (.bool false)], args := [d1, d2, d3, d4] }
  | _ => none }
def InfoTurnsWrongFalsely : Prop := infoTurnsRow.holds Try.pinned (OpenSpec.ofChange infoTurnsWrong)

/-- 'stevedorelaw06.InfoBack': WHATEVER THE INPUT: true; the input reads as it did. -/
def infoBackSpec : ChangeSpec := { name := "infoBack", fn := fun _ => fun
  | [d1, d2, d3] => { results := [.lit (.bool true)], args := [d1, d2, d3] }
  | _ => none }
def infoBackRow : OpenClaim := { program := "ythpomdmjckdknaa", sum := "ce4c3a6324def135086eae29d867b36a083d547e8518b52b140e7b35b3441fe4", func := "stevedore/stevedorelaw06.InfoBack", spec := "infoBack", unfollowed := true, recurses := true, apart := false }
def InfoBackSaid : Prop := infoBackRow.holds Try.pinned (OpenSpec.ofChange infoBackSpec)

/-- ITS FALSE NEIGHBOUR: 'it returns false'. Refute it at one input. -/
def infoBackWrong : ChangeSpec := { name := "infoBack", fn := fun _ => fun
  | [d1, d2, d3] => { results := [.lit (.bool false)], args := [d1, d2, d3] }
  | _ => none }
def InfoBackWrongFalsely : Prop := infoBackRow.holds Try.pinned (OpenSpec.ofChange infoBackWrong)

/- THE SECOND FORM. 'bulk': how many values and letters a reading holds, each counted each time it is reached (what is shared counts as often as it is met; a slice's spare places count too). A statement '..UptoSaid' is the law's where the arguments, and the package variables that the reading takes, are together of bulk at most 1048576: NARROWER than '..Said'. Prove '..Said' where nothing that the law and all that it calls make is longer than what came in: it says more and counts as full. Else prove '..UptoSaid'. A law counts once. -/
mutual
def uptoBulk {H : Type} : DataW H → Nat
  | .lit (.string bytes) => bytes.length + 1
  | .lit _ => 1
  | .nil => 1
  | .ptr d => uptoBulk d + 1
  | .slice elems spare => uptoBulkAll elems + uptoBulkAll spare + 1
  | .agg parts => uptoBulkAll parts + 1
  | .iface _ d => uptoBulk d + 1
  | .map entries => uptoBulkEntries entries + 1
  | .held _ => 1
def uptoBulkAll {H : Type} : List (DataW H) → Nat
  | [] => 0
  | d :: r => uptoBulk d + uptoBulkAll r
def uptoBulkEntries {H : Type} : List (Lit × DataW H) → Nat
  | [] => 0
  | x :: r => uptoBulkEntry x + uptoBulkEntries r
def uptoBulkEntry {H : Type} : Lit × DataW H → Nat
  | (.string bytes, d) => bytes.length + uptoBulk d + 1
  | (_, d) => uptoBulk d + 1
 end
def uptoSmall : (H : Type) → List (DataW H) → Bool := fun _ ds => decide (uptoBulkAll ds ≤ 1048576)
def OpenSpec.upto (s : _root_.Go.ChangeSpec) : _root_.Go.OpenSpec := { _root_.Go.OpenSpec.ofChange s with cond := some uptoSmall }

/-- 'stevedorelaw06.InfoMakes', WHERE WHAT IT READS IS OF BULK AT MOST 1048576: true; the input reads as it did. -/
def infoMakesUptoRow : OpenClaim := { program := "ythpomdmjckdknaa", sum := "ce4c3a6324def135086eae29d867b36a083d547e8518b52b140e7b35b3441fe4", func := "stevedore/stevedorelaw06.InfoMakes", spec := "infoMakes", unfollowed := true, recurses := true, apart := false, narrowed := true }
def InfoMakesUptoSaid : Prop := infoMakesUptoRow.holds Try.pinned (OpenSpec.upto infoMakesSpec)

/-- 'stevedorelaw06.InfoOrder', WHERE WHAT IT READS IS OF BULK AT MOST 1048576: true; the input reads as it did. -/
def infoOrderUptoRow : OpenClaim := { program := "ythpomdmjckdknaa", sum := "ce4c3a6324def135086eae29d867b36a083d547e8518b52b140e7b35b3441fe4", func := "stevedore/stevedorelaw06.InfoOrder", spec := "infoOrder", unfollowed := true, recurses := true, apart := false, narrowed := true }
def InfoOrderUptoSaid : Prop := infoOrderUptoRow.holds Try.pinned (OpenSpec.upto infoOrderSpec)

/-- 'stevedorelaw06.InfoTurns', WHERE WHAT IT READS IS OF BULK AT MOST 1048576: true; the input reads as it did. -/
def infoTurnsUptoRow : OpenClaim := { program := "ythpomdmjckdknaa", sum := "ce4c3a6324def135086eae29d867b36a083d547e8518b52b140e7b35b3441fe4", func := "stevedore/stevedorelaw06.InfoTurns", spec := "infoTurns", unfollowed := true, recurses := true, apart := false, narrowed := true }
def InfoTurnsUptoSaid : Prop := infoTurnsUptoRow.holds Try.pinned (OpenSpec.upto infoTurnsSpec)

/-- 'stevedorelaw06.InfoBack', WHERE WHAT IT READS IS OF BULK AT MOST 1048576: true; the input reads as it did. -/
def infoBackUptoRow : OpenClaim := { program := "ythpomdmjckdknaa", sum := "ce4c3a6324def135086eae29d867b36a083d547e8518b52b140e7b35b3441fe4", func := "stevedore/stevedorelaw06.InfoBack", spec := "infoBack", unfollowed := true, recurses := true, apart := false, narrowed := true }
def InfoBackUptoSaid : Prop := infoBackUptoRow.holds Try.pinned (OpenSpec.upto infoBackSpec)

end Rows
end Go.Proofs.Ythpomdmjckdknaa
