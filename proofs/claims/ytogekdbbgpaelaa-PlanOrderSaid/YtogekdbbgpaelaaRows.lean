/-
  No cell of these rows narrows 'for every input' (looked for: loops, veiled, ifaces, maps, wideKeys, modest, calm, conditions, laid).
  DERIVED. THE GIVEN ROWS OF THIS SEAT. 4 by the template 'for every input the law returns true; each argument reads behind the call as it read before'; 0 by the template 'total and deterministic' (their statements: YtogekdbbgpaelaaTotals.lean).
  GIVEN WITH THE SEED: the statements are not yours to turn. If you find one false, say at which input.
  Laid BY PROGRAM, IN A SANDBOX (cutbox-rows.mjs): the forced cells as the released guide's own fill.sh prints them over the translation 784ad09b9d853e12… (all of the seat's roots in one cut). By AI agents, Wed Nov 11 2026. No macro, syntax, notation, axiom, sorry.
-/
import Derived.Test.YtogekdbbgpaelaaChecked
import GoSem.Claim
import GoSem.ClaimJoined
import GoSem.ClaimMapViews
import Derived.JoinedTies
import Derived.KernelRfl
namespace Go.Proofs.Ytogekdbbgpaelaa
/- THE CELL 'sum', in the pinned program and in every row, IS THE sha256 OF THE DUMP (.gsa) THAT YtogekdbbgpaelaaProg.lean LOADS. Nothing in Lean hashes anything: it is a label: what it is worth is what the hold of that sum in a sandbox is worth. -/
noncomputable def Try.pinned : Pinned := { name := "ytogekdbbgpaelaa", sum := "784ad09b9d853e12a8875b8f0771bd92ab5dbccffc983398b64972bdc7ab394c", checked := Try.checked }
namespace Rows
def none {H : Type} : Left H := { results := [], args := [] }

/-- 'lanternlaw09.PlanWhen': WHATEVER THE INPUT: true; the input reads as it did. -/
def planWhenSpec : ChangeSpec := { name := "planWhen", fn := fun _ => fun
  | [d1, d2, d3, d4] => { results := [.lit (.bool true)], args := [d1, d2, d3, d4] }
  | _ => none }
def planWhenRow : OpenClaim := { program := "ytogekdbbgpaelaa", sum := "784ad09b9d853e12a8875b8f0771bd92ab5dbccffc983398b64972bdc7ab394c", func := "lantern/lanternlaw09.PlanWhen", spec := "planWhen", unfollowed := true, recurses := true, apart := false }
def PlanWhenSaid : Prop := planWhenRow.holds Try.pinned (OpenSpec.ofChange planWhenSpec)

/-- ITS FALSE NEIGHBOUR: 'it returns false'. Refute it at one input. -/
def planWhenWrong : ChangeSpec := { name := "planWhen", fn := fun _ => fun
  | [d1, d2, d3, d4] => { results := [.lit (.bool false)], args := [d1, d2, d3, d4] }
  | _ => none }
def PlanWhenWrongFalsely : Prop := planWhenRow.holds Try.pinned (OpenSpec.ofChange planWhenWrong)

/-- 'lanternlaw09.PlanSays': WHATEVER THE INPUT: true; the input reads as it did. -/
def planSaysSpec : ChangeSpec := { name := "planSays", fn := fun _ => fun
  | [d1, d2, d3, d4, d5] => { results := [.lit (.bool true)], args := [d1, d2, d3, d4, d5] }
  | _ => none }
def planSaysRow : OpenClaim := { program := "ytogekdbbgpaelaa", sum := "784ad09b9d853e12a8875b8f0771bd92ab5dbccffc983398b64972bdc7ab394c", func := "lantern/lanternlaw09.PlanSays", spec := "planSays", unfollowed := true, recurses := true, apart := false }
def PlanSaysSaid : Prop := planSaysRow.holds Try.pinned (OpenSpec.ofChange planSaysSpec)

/-- ITS FALSE NEIGHBOUR: 'it returns false'. Refute it at one input. -/
def planSaysWrong : ChangeSpec := { name := "planSays", fn := fun _ => fun
  | [d1, d2, d3, d4, d5] => { results := [.lit (.bool false)], args := [d1, d2, d3, d4, d5] }
  | _ => none }
def PlanSaysWrongFalsely : Prop := planSaysRow.holds Try.pinned (OpenSpec.ofChange planSaysWrong)

/-- 'lanternlaw09.PlanAdds': WHATEVER THE INPUT: true; the input reads as it did. -/
def planAddsSpec : ChangeSpec := { name := "planAdds", fn := fun _ => fun
  | [d1, d2, d3, d4, d5] => { results := [.lit (.bool true)], args := [d1, d2, d3, d4, d5] }
  | _ => none }
def planAddsRow : OpenClaim := { program := "ytogekdbbgpaelaa", sum := "784ad09b9d853e12a8875b8f0771bd92ab5dbccffc983398b64972bdc7ab394c", func := "lantern/lanternlaw09.PlanAdds", spec := "planAdds", unfollowed := true, recurses := true, apart := false }
def PlanAddsSaid : Prop := planAddsRow.holds Try.pinned (OpenSpec.ofChange planAddsSpec)

/-- ITS FALSE NEIGHBOUR: 'it returns false'. Refute it at one input. -/
def planAddsWrong : ChangeSpec := { name := "planAdds", fn := fun _ => fun
  | [d1, d2, d3, d4, d5] => { results := [.lit (.bool false)], args := [d1, d2, d3, d4, d5] }
  | _ => none }
def PlanAddsWrongFalsely : Prop := planAddsRow.holds Try.pinned (OpenSpec.ofChange planAddsWrong)

/-- 'lanternlaw09.PlanOrder': WHATEVER THE INPUT: true; the input reads as it did. -/
def planOrderSpec : ChangeSpec := { name := "planOrder", fn := fun _ => fun
  | [d1, d2, d3, d4, d5, d6] => { results := [.lit (.bool true)], args := [d1, d2, d3, d4, d5, d6] }
  | _ => none }
def planOrderRow : OpenClaim := { program := "ytogekdbbgpaelaa", sum := "784ad09b9d853e12a8875b8f0771bd92ab5dbccffc983398b64972bdc7ab394c", func := "lantern/lanternlaw09.PlanOrder", spec := "planOrder", unfollowed := true, recurses := true, apart := false }
def PlanOrderSaid : Prop := planOrderRow.holds Try.pinned (OpenSpec.ofChange planOrderSpec)

/-- ITS FALSE NEIGHBOUR: 'it returns false'. Refute it at one input. -/
def planOrderWrong : ChangeSpec := { name := "planOrder", fn := fun _ => fun
  | [d1, d2, d3, d4, d5, d6] => { results := [.lit (.bool false)], args := [d1, d2, d3, d4, d5, d6] }
  | _ => none }
def PlanOrderWrongFalsely : Prop := planOrderRow.holds Try.pinned (OpenSpec.ofChange planOrderWrong)

/- THE SECOND FORM. 'bulk': how many values and letters a reading holds, each counted each time it is reached (what is shared counts as often as it is met; a slice's spare places count too). A statement '..UptoSaid' is the law's where the arguments, and the package variables that the reading takes, are together of bulk at most 1048576: NARROWER than '..Said'. Prove '..Said' where nothing that the law and all that it calls make is longer than what came in: it says more and counts as full. Else prove '..UptoSaid'. A law counts once. -/
mutual
def uptoBulk {H : Type} : DataW H → Nat
  | .lit (.string bytes) => bytes.length + 1
  | .lit _ => 1
  | .nil => 1
  | .ptr d => uptoBulk d + 1
  | .slice elems spare => uptoBulkAll elems + uptoBulkAll spare + 1
  | .agg parts => uptoBulkAll parts + 1
  | .iface _ d => uptoBulk d + 1
  | .map entries => uptoBulkEntries entries + 1
  | .held _ => 1
def uptoBulkAll {H : Type} : List (DataW H) → Nat
  | [] => 0
  | d :: r => uptoBulk d + uptoBulkAll r
def uptoBulkEntries {H : Type} : List (Lit × DataW H) → Nat
  | [] => 0
  | x :: r => uptoBulkEntry x + uptoBulkEntries r
def uptoBulkEntry {H : Type} : Lit × DataW H → Nat
  | (.string bytes, d) => bytes.length + uptoBulk d + 1
  | (_, d) => uptoBulk d + 1
 end
def uptoSmall : (H : Type) → List (DataW H) → Bool := fun _ ds => decide (uptoBulkAll ds ≤ 1048576)
def OpenSpec.upto (s : _root_.Go.ChangeSpec) : _root_.Go.OpenSpec := { _root_.Go.OpenSpec.ofChange s with cond := some uptoSmall }

/-- 'lanternlaw09.PlanWhen', WHERE WHAT IT READS IS OF BULK AT MOST 1048576: true; the input reads as it did. -/
def planWhenUptoRow : OpenClaim := { program := "ytogekdbbgpaelaa", sum := "784ad09b9d853e12a8875b8f0771bd92ab5dbccffc983398b64972bdc7ab394c", func := "lantern/lanternlaw09.PlanWhen", spec := "planWhen", unfollowed := true, recurses := true, apart := false, narrowed := true }
def PlanWhenUptoSaid : Prop := planWhenUptoRow.holds Try.pinned (OpenSpec.upto planWhenSpec)

/-- 'lanternlaw09.PlanSays', WHERE WHAT IT READS IS OF BULK AT MOST 1048576: true; the input reads as it did. -/
def planSaysUptoRow : OpenClaim := { program := "ytogekdbbgpaelaa", sum := "784ad09b9d853e12a8875b8f0771bd92ab5dbccffc983398b64972bdc7ab394c", func := "lantern/lanternlaw09.PlanSays", spec := "planSays", unfollowed := true, recurses := true, apart := false, narrowed := true }
def PlanSaysUptoSaid : Prop := planSaysUptoRow.holds Try.pinned (OpenSpec.upto planSaysSpec)

/-- 'lanternlaw09.PlanAdds', WHERE WHAT IT READS IS OF BULK AT MOST 1048576: true; the input reads as it did. -/
def planAddsUptoRow : OpenClaim := { program := "ytogekdbbgpaelaa", sum := "784ad09b9d853e12a8875b8f0771bd92ab5dbccffc983398b64972bdc7ab394c", func := "lantern/lanternlaw09.PlanAdds", spec := "planAdds", unfollowed := true, recurses := true, apart := false, narrowed := true }
def PlanAddsUptoSaid : Prop := planAddsUptoRow.holds Try.pinned (OpenSpec.upto planAddsSpec)

/-- 'lanternlaw09.PlanOrder', WHERE WHAT IT READS IS OF BULK AT MOST 1048576: true; the input reads as it did. -/
def planOrderUptoRow : OpenClaim := { program := "ytogekdbbgpaelaa", sum := "784ad09b9d853e12a8875b8f0771bd92ab5dbccffc983398b64972bdc7ab394c", func := "lantern/lanternlaw09.PlanOrder", spec := "planOrder", unfollowed := true, recurses := true, apart := false, narrowed := true }
def PlanOrderUptoSaid : Prop := planOrderUptoRow.holds Try.pinned (OpenSpec.upto planOrderSpec)

end Rows
end Go.Proofs.Ytogekdbbgpaelaa
