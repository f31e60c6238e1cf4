/- Keys that may be, of raw numbers. -/
import Derived.Test.YtkndjjceijfdgaaTwo
namespace Go.Proofs.Ytkndjjceijfdgaa.PAll
open Go.RowKit Go.Proofs.YtkndjjceijfdgaaW.PrintWords
set_option linter.unusedVariables false
theorem w64_iff (n : Int) : W64 n ↔ -9223372036854775808 ≤ n ∧ n ≤ 9223372036854775807 := by
  unfold W64
  simp only [Lit.wf, IntKind.min, IntKind.max, IntKind.signed, IntKind.bits, Bool.and_eq_true, decide_eq_true_eq, if_true]
  omega
theorem pick_ok (c n : Int) (hc : W64 c) (h1 : 1 ≤ n) (h2 : n ≤ 100) : ∃ r, lanternlaw10_pick.f c n = some r ∧ 0 ≤ r ∧ r < n := by
  rw [w64_iff] at hc
  unfold lanternlaw10_pick.f
  by_cases h : c < 0
  · rw [if_pos h, if_neg (by omega)]
    have e1 : wrap64 (c + 1) = c + 1 := (by unfold wrap64; omega)
    have e2 : wrap64 (-(c + 1)) = -(c + 1) := (by unfold wrap64; omega)
    rw [e1, e2]
    exact ⟨_, rfl, Int.tmod_nonneg _ (by omega), Int.tmod_lt_of_pos _ (by omega)⟩
  · rw [if_neg h, if_neg (by omega)]
    exact ⟨_, rfl, Int.tmod_nonneg _ (by omega), Int.tmod_lt_of_pos _ (by omega)⟩
/-- right: a key that may be, of few peers and sessions. -/
theorem right_ok (k : S36) (hk : WK k) : ∃ q : S36, lanternlaw10_right.f k.f0 k.f1.f0 k.f1.f1 k.f2 k.f3 = some (q.f0, q.f1.f0, q.f1.f1, q.f2, q.f3) ∧ (1 ≤ q.f0 ∧ q.f0 ≤ 3) ∧ (1 ≤ q.f1.f0 ∧ q.f1.f0 ≤ 3) ∧ (1 ≤ q.f1.f1 ∧ q.f1.f1 ≤ 3) ∧ (1 ≤ q.f2 ∧ q.f2 ≤ 4) ∧ (0 ≤ q.f3 ∧ q.f3 ≤ 3) := by
  obtain ⟨h0, h1, h2, h3, h4⟩ := hk
  obtain ⟨r0, e0, l0, u0⟩ := pick_ok k.f0 3 h0 (by omega) (by omega)
  obtain ⟨r1, e1, l1, u1⟩ := pick_ok k.f1.f0 3 h1 (by omega) (by omega)
  obtain ⟨r2, e2, l2, u2⟩ := pick_ok k.f1.f1 3 h2 (by omega) (by omega)
  obtain ⟨r3, e3, l3, u3⟩ := pick_ok k.f2 4 h3 (by omega) (by omega)
  obtain ⟨r4, e4, l4, u4⟩ := pick_ok k.f3 4 h4 (by omega) (by omega)
  have w1 : ∀ r : Int, 0 ≤ r → r < 4 → wrap64 (1 + r) = 1 + r := fun r _ _ => by unfold wrap64; omega
  refine ⟨⟨1 + r0, ⟨1 + r1, 1 + r2⟩, 1 + r3, r4⟩, ?_, by dsimp only; omega, by dsimp only; omega, by dsimp only; omega, by dsimp only; omega, by dsimp only; omega⟩
  unfold lanternlaw10_right.f
  rw [e0, e1, e2, e3, e4]
  simp only [Option.bind_some, w1 r0 l0 (by omega), w1 r1 l1 (by omega), w1 r2 l2 (by omega), w1 r3 l3 (by omega)]
end Go.Proofs.Ytkndjjceijfdgaa.PAll
