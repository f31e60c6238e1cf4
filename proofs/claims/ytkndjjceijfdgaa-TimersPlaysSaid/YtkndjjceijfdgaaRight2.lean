/- Keys that may be: what Start answers. -/
import Derived.Test.YtkndjjceijfdgaaRight
namespace Go.Proofs.Ytkndjjceijfdgaa.PAll
open Go.RowKit Go.Proofs.YtkndjjceijfdgaaW.PrintWords
set_option linter.unusedVariables false
/-- A key of small numbers. -/
def Small (q : S36) : Prop := (1 ≤ q.f0 ∧ q.f0 ≤ 9) ∧ (1 ≤ q.f1.f0 ∧ q.f1.f0 ≤ 9) ∧ (1 ≤ q.f1.f1 ∧ q.f1.f1 ≤ 9) ∧ (1 ≤ q.f2 ∧ q.f2 ≤ 4) ∧ (0 ≤ q.f3 ∧ q.f3 ≤ 3)
theorem Small.wk {q : S36} (h : Small q) : WK q := by
  unfold Small at h
  exact ⟨(w64_iff _).2 (by omega), (w64_iff _).2 (by omega), (w64_iff _).2 (by omega), (w64_iff _).2 (by omega), (w64_iff _).2 (by omega)⟩
theorem Small.may {q : S36} (h : Small q) : mayB q = true := by
  unfold Small at h
  unfold mayB btw
  simp only [Bool.and_eq_true, decide_eq_true_eq]
  omega
theorem Small.start {q : S36} (h : Small q) {n : Int} (h1 : 1 ≤ n) (h2 : n ≤ 1048576) : startE q n = 0 := startE_ok h.may (by omega) (by omega)
theorem Small.startT {q : S36} (h : Small q) {n : Int} (h1 : 1 ≤ n) (h2 : n ≤ 1048576) (T : List (S36 × Int)) : startT T q n = putT T q n := by
  unfold PAll.startT; rw [h.start h1 h2, if_pos rfl]
theorem goodT_put {T : List (S36 × Int)} (h : goodT T) {q : S36} (hq : WK q) {n : Int} (h1 : 1 ≤ n) (h2 : n ≤ 1048576) : goodT (putT T q n) := by
  intro p hp
  rcases List.mem_cons.1 hp with rfl | hp
  · exact ⟨hq, h1, h2⟩
  · exact h p (mem_delT.1 hp).1
theorem goodT_sub {T T' : List (S36 × Int)} (h : goodT T) (hs : ∀ p ∈ T', p ∈ T) : goodT T' := fun p hp => h p (hs p hp)
theorem goodT_tick {T : List (S36 × Int)} {Hd : List Int} (h : goodT T) : goodT (tickT Hd T) := by
  intro p hp
  obtain ⟨q, hq, e⟩ := List.mem_filterMap.1 hp
  have hg := h q hq
  unfold tick1 at e
  split at e
  · cases e; exact hg
  · split at e
    · cases e
    · rename_i h1 h2
      cases e
      exact ⟨hg.1, by show 1 ≤ q.2 - 1; omega, by show q.2 - 1 ≤ 1048576; omega⟩
theorem put_len (T : List (S36 × Int)) (k : S36) (n : Int) : (putT T k n).length ≤ T.length + 1 := by
  unfold putT
  have := delT_len (T := T) k
  simp only [List.length_cons]; omega
theorem tick_len (Hd : List Int) (T : List (S36 × Int)) : (tickT Hd T).length ≤ T.length := List.length_filterMap_le _ _
theorem drop_len (T : List (S36 × Int)) (s : S34) : (dropT T s).length ≤ T.length := List.length_filter_le _ _
end Go.Proofs.Ytkndjjceijfdgaa.PAll
