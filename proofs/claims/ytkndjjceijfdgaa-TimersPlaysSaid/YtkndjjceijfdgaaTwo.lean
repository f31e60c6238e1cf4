/- Two tables side by side. -/
import Derived.Test.YtkndjjceijfdgaaAwake
import Derived.Test.YtkndjjceijfdgaaAloneMath
namespace Go.Proofs.Ytkndjjceijfdgaa.PAll
open Go.RowKit Go.Proofs.YtkndjjceijfdgaaW.PrintWords Go.Proofs.YtkndjjceijfdgaaM
set_option linter.unusedVariables false
variable {w wi wj : World} {ba bla bha bb blb bhb : Nat} {Ta Tb Ta' Tb' : List (S36 × Int)}
/-- Two tables, a and b, that were made behind w, none of their blocks the other's; nobody is held. -/
def Two (w : World) (ba bla bha bb blb bhb : Nat) (Ta Tb : List (S36 × Int)) (wi : World) : Prop :=
  St w ba bla bha Ta [] wi ∧ St w bb blb bhb Tb [] wi ∧ (bla ≠ bb ∧ bla ≠ blb ∧ bla ≠ bhb) ∧ (blb ≠ ba ∧ blb ≠ bla ∧ blb ≠ bha) ∧ Below w.heap.size w wi
theorem Two.below (h : Two w ba bla bha bb blb bhb Ta Tb wi) (hb : Below wi.heap.size wi wj) : Two w ba bla bha bb blb bhb Ta Tb wj :=
  ⟨h.1.below hb, h.2.1.below hb, h.2.2.1, h.2.2.2.1, h.2.2.2.2.trans (hb.mono h.2.2.2.2.size)⟩
theorem Two.stepA (h : Two w ba bla bha bb blb bhb Ta Tb wi) (hs : St w ba bla bha Ta' [] wj) (hg : wi.grownBy wj (some bla)) : Two w ba bla bha bb blb bhb Ta' Tb wj :=
  ⟨hs, h.2.1.turn (h.2.1.1.grown hg (fun j hj => by cases hj; exact h.2.2.1)), h.2.2.1, h.2.2.2.1, h.2.2.2.2.grown hg h.2.2.2.2.size (fun j hj => by cases hj; exact h.1.2.2.1)⟩
theorem Two.stepB (h : Two w ba bla bha bb blb bhb Ta Tb wi) (hs : St w bb blb bhb Tb' [] wj) (hg : wi.grownBy wj (some blb)) : Two w ba bla bha bb blb bhb Ta Tb' wj :=
  ⟨h.1.turn (h.1.1.grown hg (fun j hj => by cases hj; exact h.2.2.2.1)), hs, h.2.2.1, h.2.2.2.1, h.2.2.2.2.grown hg h.2.2.2.2.size (fun j hj => by cases hj; exact h.2.1.2.2.1)⟩
end Go.Proofs.Ytkndjjceijfdgaa.PAll
