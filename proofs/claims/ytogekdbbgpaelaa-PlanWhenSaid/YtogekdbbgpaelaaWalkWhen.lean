/- The walks of the laws PlanWhen and PlanAdds: whatever comes in, true; nothing that was there has changed. -/
import Derived.Test.YtogekdbbgpaelaaPlanLaws
import Derived.Test.YtogekdbbgpaelaaOpen
import Derived.OpenShut
namespace Go.Proofs.Ytogekdbbgpaelaa.PAll
open Go.RowKit Go.Proofs.Ytogekdbbgpaelaa.PlanFuns Go.Proofs.YtogekdbbgpaelaaW.PrintWords Go.Proofs.YtogekdbbgpaelaaW.PrintLast Go.Proofs.YtogekdbbgpaelaaW.PrintMore
theorem PlanWhen_walk (w : World) (A0 : Option Addr) (c0 : Nat) (l0 : List S34) (hr0 : Kd.C k34 w A0 l0.length l0) (hc0 : l0.length ≤ c0) (_ : l0.length * 32 ≤ 140737488351232) (a1 : Int) (_ : (Lit.int .i64 a1).wf = true) (a2 : Int) (_ : (Lit.int .i64 a2).wf = true) (a3 : Int) (h3 : (Lit.int .i64 a3).wf = true) :
    Calls Try.prog 3 #[.slice A0 l0.length c0, .int .i64 a1, .int .i64 a2, .int .i64 a3] w fun e w' => e = .returned (.bool true) ∧ Below w.heap.size w w' := by
  obtain ⟨k, hk⟩ := (PlanWhen_ev l0 a1 a2 a3 (bounds_i64 h3).2).rounds
  exact lanternlaw09_PlanWhen.calls k A0 c0 l0 a1 a2 a3 true w hr0 hc0 hk
theorem PlanAdds_walk (w : World) (A0 : Option Addr) (c0 : Nat) (l0 : List S34) (hr0 : Kd.C k34 w A0 l0.length l0) (hc0 : l0.length ≤ c0) (_ : l0.length * 32 ≤ 140737488351232) (a1 : Int) (_ : (Lit.int .i64 a1).wf = true) (a2 : Int) (_ : (Lit.int .i64 a2).wf = true) (a3 : Int) (_ : (Lit.int .i64 a3).wf = true) (a4 : Int) (_ : (Lit.int .i64 a4).wf = true) :
    Calls Try.prog 5 #[.slice A0 l0.length c0, .int .i64 a1, .int .i64 a2, .int .i64 a3, .int .i64 a4] w fun e w' => e = .returned (.bool true) ∧ Below w.heap.size w w' := by
  obtain ⟨k, hk⟩ := (PlanAdds_ev l0 a1 a2 a3 a4).rounds
  exact lanternlaw09_PlanAdds.calls k A0 c0 l0 a1 a2 a3 a4 true w hr0 hc0 hk
end Go.Proofs.Ytogekdbbgpaelaa.PAll
