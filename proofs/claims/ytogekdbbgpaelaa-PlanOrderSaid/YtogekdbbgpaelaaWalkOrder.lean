/- The walk of the law PlanOrder: whatever comes in, true; nothing that was there has changed. -/
import Derived.Test.YtogekdbbgpaelaaOrderLaw
import Derived.Test.YtogekdbbgpaelaaOpen
import Derived.OpenShut
namespace Go.Proofs.Ytogekdbbgpaelaa.PAll
open Go.RowKit Go.Proofs.Ytogekdbbgpaelaa.PlanFuns Go.Proofs.YtogekdbbgpaelaaW.PrintWords Go.Proofs.YtogekdbbgpaelaaW.PrintLast Go.Proofs.YtogekdbbgpaelaaW.PrintMore
theorem PlanOrder_walk (w : World) (A0 : Option Addr) (c0 : Nat) (l0 : List S34) (hr0 : Kd.C k34 w A0 l0.length l0) (hc0 : l0.length ≤ c0) (_ : l0.length * 32 ≤ 140737488351232)
    (a1 : Option Addr) (len1 cap1 : Nat) (z1 : List Int) (w1 : (a1 = none ∧ len1 = 0 ∧ cap1 = 0 ∧ z1 = []) ∨ ∃ x, a1 = some x ∧ len1 ≤ cap1 ∧ cap1 ≤ maxLen ∧ z1.length = cap1 ∧ (∀ i, i < z1.length → w.cell? (x.add i) = some (.int .i64 (z1.getD i 0))) ∧ ∀ n ∈ z1, (Lit.int .i64 n).wf = true) (_ : len1 * 8 ≤ 140737488351232)
    (a2 : Int) (_ : (Lit.int .i64 a2).wf = true) (a3 : Int) (_ : (Lit.int .i64 a3).wf = true) (a4 : Int) (_ : (Lit.int .i64 a4).wf = true) (a5 : Int) (h5 : (Lit.int .i64 a5).wf = true) :
    Calls Try.prog 6 #[.slice A0 l0.length c0, .slice a1 len1 cap1, .int .i64 a2, .int .i64 a3, .int .i64 a4, .int .i64 a5] w fun e w' => e = .returned (.bool true) ∧ Below w.heap.size w w' := by
  obtain ⟨l1, rfl, hr1, hm1, hw1, hc1⟩ := ReadsInt.ofRowC w1
  obtain ⟨k, hk⟩ := (PlanOrder_ev l0 l1 a2 a3 a4 a5 (bounds_i64 h5).2).rounds
  exact lanternlaw09_PlanOrder.calls k A0 c0 l0 _ _ l1 a2 a3 a4 a5 true w hr0 hc0 (Kd.C_of_reads (d := (0 : Int)) (h1 := fun _ => rfl) hr1) hc1 hk
end Go.Proofs.Ytogekdbbgpaelaa.PAll
