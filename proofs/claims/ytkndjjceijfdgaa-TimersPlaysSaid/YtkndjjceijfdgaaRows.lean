/-
  No cell of these rows narrows 'for every input' (looked for: loops, veiled, ifaces, maps, wideKeys, modest, calm, conditions, laid).
  DERIVED. THE GIVEN ROWS OF THIS SEAT. 4 by the template 'for every input the law returns true; each argument reads behind the call as it read before'; 0 by the template 'total and deterministic' (their statements: YtkndjjceijfdgaaTotals.lean).
  GIVEN WITH THE SEED: the statements are not yours to turn. If you find one false, say at which input.
  Laid BY PROGRAM, IN A SANDBOX (cutbox-rows.mjs): the forced cells as the released guide's own fill.sh prints them over the translation 0e0e32718fafb54a… (all of the seat's roots in one cut). By AI agents, Wed Nov 11 2026. No macro, syntax, notation, axiom, sorry.
-/
import Derived.Test.YtkndjjceijfdgaaChecked
import GoSem.Claim
import GoSem.ClaimJoined
import GoSem.ClaimMapViews
import Derived.JoinedTies
import Derived.KernelRfl
namespace Go.Proofs.Ytkndjjceijfdgaa
/- THE CELL 'sum', in the pinned program and in every row, IS THE sha256 OF THE DUMP (.gsa) THAT YtkndjjceijfdgaaProg.lean LOADS. Nothing in Lean hashes anything: it is a label: what it is worth is what the hold of that sum in a sandbox is worth. -/
noncomputable def Try.pinned : Pinned := { name := "ytkndjjceijfdgaa", sum := "0e0e32718fafb54a564218b2d6bf5da310078753b57aed413a0f648427a6ed3a", checked := Try.checked }
namespace Rows
def none {H : Type} : Left H := { results := [], args := [] }

/-- 'lanternlaw10.TimersNames': WHATEVER THE INPUT: true; the input reads as it did. -/
def timersNamesSpec : ChangeSpec := { name := "timersNames", fn := fun _ => fun
  | [] => { results := [.lit (.bool true)], args := [] }
  | _ => none }
def timersNamesRow : OpenClaim := { program := "ytkndjjceijfdgaa", sum := "0e0e32718fafb54a564218b2d6bf5da310078753b57aed413a0f648427a6ed3a", func := "lantern/lanternlaw10.TimersNames", spec := "timersNames", unfollowed := true, recurses := true, plainKeys := false, apart := false }
def TimersNamesSaid : Prop := timersNamesRow.holds Try.pinned (OpenSpec.ofChange timersNamesSpec)

/-- ITS FALSE NEIGHBOUR: 'it returns false'. Refute it at one input. -/
def timersNamesWrong : ChangeSpec := { name := "timersNames", fn := fun _ => fun
  | [] => { results := [.lit (.bool false)], args := [] }
  | _ => none }
def TimersNamesWrongFalsely : Prop := timersNamesRow.holds Try.pinned (OpenSpec.ofChange timersNamesWrong)

/-- 'lanternlaw10.TimersRun': WHATEVER THE INPUT: true; the input reads as it did. -/
def timersRunSpec : ChangeSpec := { name := "timersRun", fn := fun _ => fun
  | [d1, d2] => { results := [.lit (.bool true)], args := [d1, d2] }
  | _ => none }
def timersRunRow : OpenClaim := { program := "ytkndjjceijfdgaa", sum := "0e0e32718fafb54a564218b2d6bf5da310078753b57aed413a0f648427a6ed3a", func := "lantern/lanternlaw10.TimersRun", spec := "timersRun", unfollowed := true, recurses := true, plainKeys := false, apart := false }
def TimersRunSaid : Prop := timersRunRow.holds Try.pinned (OpenSpec.ofChange timersRunSpec)

/-- ITS FALSE NEIGHBOUR: 'it returns false'. Refute it at one input. -/
def timersRunWrong : ChangeSpec := { name := "timersRun", fn := fun _ => fun
  | [d1, d2] => { results := [.lit (.bool false)], args := [d1, d2] }
  | _ => none }
def TimersRunWrongFalsely : Prop := timersRunRow.holds Try.pinned (OpenSpec.ofChange timersRunWrong)

/-- 'lanternlaw10.TimersAlone': WHATEVER THE INPUT: true; the input reads as it did. -/
def timersAloneSpec : ChangeSpec := { name := "timersAlone", fn := fun _ => fun
  | [d1, d2, d3] => { results := [.lit (.bool true)], args := [d1, d2, d3] }
  | _ => none }
def timersAloneRow : OpenClaim := { program := "ytkndjjceijfdgaa", sum := "0e0e32718fafb54a564218b2d6bf5da310078753b57aed413a0f648427a6ed3a", func := "lantern/lanternlaw10.TimersAlone", spec := "timersAlone", unfollowed := true, recurses := true, plainKeys := false, apart := false }
def TimersAloneSaid : Prop := timersAloneRow.holds Try.pinned (OpenSpec.ofChange timersAloneSpec)

/-- ITS FALSE NEIGHBOUR: 'it returns false'. Refute it at one input. -/
def timersAloneWrong : ChangeSpec := { name := "timersAlone", fn := fun _ => fun
  | [d1, d2, d3] => { results := [.lit (.bool false)], args := [d1, d2, d3] }
  | _ => none }
def TimersAloneWrongFalsely : Prop := timersAloneRow.holds Try.pinned (OpenSpec.ofChange timersAloneWrong)

/-- 'lanternlaw10.TimersPlays': WHATEVER THE INPUT: true; the input reads as it did. -/
def timersPlaysSpec : ChangeSpec := { name := "timersPlays", fn := fun _ => fun
  | [d] => { results := [.lit (.bool true)], args := [d] }
  | _ => none }
def timersPlaysRow : OpenClaim := { program := "ytkndjjceijfdgaa", sum := "0e0e32718fafb54a564218b2d6bf5da310078753b57aed413a0f648427a6ed3a", func := "lantern/lanternlaw10.TimersPlays", spec := "timersPlays", unfollowed := true, recurses := true, plainKeys := false, apart := false }
def TimersPlaysSaid : Prop := timersPlaysRow.holds Try.pinned (OpenSpec.ofChange timersPlaysSpec)

/-- ITS FALSE NEIGHBOUR: 'it returns false'. Refute it at one input. -/
def timersPlaysWrong : ChangeSpec := { name := "timersPlays", fn := fun _ => fun
  | [d] => { results := [.lit (.bool false)], args := [d] }
  | _ => none }
def TimersPlaysWrongFalsely : Prop := timersPlaysRow.holds Try.pinned (OpenSpec.ofChange timersPlaysWrong)

/- THE SECOND FORM. 'bulk': how many values and letters a reading holds, each counted each time it is reached (what is shared counts as often as it is met; a slice's spare places count too). A statement '..UptoSaid' is the law's where the arguments, and the package variables that the reading takes, are together of bulk at most 1048576: NARROWER than '..Said'. Prove '..Said' where nothing that the law and all that it calls make is longer than what came in: it says more and counts as full. Else prove '..UptoSaid'. A law counts once. -/
mutual
def uptoBulk {H : Type} : DataW H → Nat
  | .lit (.string bytes) => bytes.length + 1
  | .lit _ => 1
  | .nil => 1
  | .ptr d => uptoBulk d + 1
  | .slice elems spare => uptoBulkAll elems + uptoBulkAll spare + 1
  | .agg parts => uptoBulkAll parts + 1
  | .iface _ d => uptoBulk d + 1
  | .map entries => uptoBulkEntries entries + 1
  | .held _ => 1
def uptoBulkAll {H : Type} : List (DataW H) → Nat
  | [] => 0
  | d :: r => uptoBulk d + uptoBulkAll r
def uptoBulkEntries {H : Type} : List (Lit × DataW H) → Nat
  | [] => 0
  | x :: r => uptoBulkEntry x + uptoBulkEntries r
def uptoBulkEntry {H : Type} : Lit × DataW H → Nat
  | (.string bytes, d) => bytes.length + uptoBulk d + 1
  | (_, d) => uptoBulk d + 1
 end
def uptoSmall : (H : Type) → List (DataW H) → Bool := fun _ ds => decide (uptoBulkAll ds ≤ 1048576)
def OpenSpec.upto (s : _root_.Go.ChangeSpec) : _root_.Go.OpenSpec := { _root_.Go.OpenSpec.ofChange s with cond := some uptoSmall }

/-- 'lanternlaw10.TimersNames', WHERE WHAT IT READS IS OF BULK AT MOST 1048576: true; the input reads as it did. -/
def timersNamesUptoRow : OpenClaim := { program := "ytkndjjceijfdgaa", sum := "0e0e32718fafb54a564218b2d6bf5da310078753b57aed413a0f648427a6ed3a", func := "lantern/lanternlaw10.TimersNames", spec := "timersNames", unfollowed := true, recurses := true, plainKeys := false, apart := false, narrowed := true }
def TimersNamesUptoSaid : Prop := timersNamesUptoRow.holds Try.pinned (OpenSpec.upto timersNamesSpec)

/-- 'lanternlaw10.TimersRun', WHERE WHAT IT READS IS OF BULK AT MOST 1048576: true; the input reads as it did. -/
def timersRunUptoRow : OpenClaim := { program := "ytkndjjceijfdgaa", sum := "0e0e32718fafb54a564218b2d6bf5da310078753b57aed413a0f648427a6ed3a", func := "lantern/lanternlaw10.TimersRun", spec := "timersRun", unfollowed := true, recurses := true, plainKeys := false, apart := false, narrowed := true }
def TimersRunUptoSaid : Prop := timersRunUptoRow.holds Try.pinned (OpenSpec.upto timersRunSpec)

/-- 'lanternlaw10.TimersAlone', WHERE WHAT IT READS IS OF BULK AT MOST 1048576: true; the input reads as it did. -/
def timersAloneUptoRow : OpenClaim := { program := "ytkndjjceijfdgaa", sum := "0e0e32718fafb54a564218b2d6bf5da310078753b57aed413a0f648427a6ed3a", func := "lantern/lanternlaw10.TimersAlone", spec := "timersAlone", unfollowed := true, recurses := true, plainKeys := false, apart := false, narrowed := true }
def TimersAloneUptoSaid : Prop := timersAloneUptoRow.holds Try.pinned (OpenSpec.upto timersAloneSpec)

/-- 'lanternlaw10.TimersPlays', WHERE WHAT IT READS IS OF BULK AT MOST 1048576: true; the input reads as it did. -/
def timersPlaysUptoRow : OpenClaim := { program := "ytkndjjceijfdgaa", sum := "0e0e32718fafb54a564218b2d6bf5da310078753b57aed413a0f648427a6ed3a", func := "lantern/lanternlaw10.TimersPlays", spec := "timersPlays", unfollowed := true, recurses := true, plainKeys := false, apart := false, narrowed := true }
def TimersPlaysUptoSaid : Prop := timersPlaysUptoRow.holds Try.pinned (OpenSpec.upto timersPlaysSpec)

end Rows
end Go.Proofs.Ytkndjjceijfdgaa
