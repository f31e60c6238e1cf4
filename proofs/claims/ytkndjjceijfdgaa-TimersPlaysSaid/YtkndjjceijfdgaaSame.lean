/- sameKeys: two lists of keys are the same. -/
import Derived.Test.YtkndjjceijfdgaaAlone2
namespace Go.Proofs.Ytkndjjceijfdgaa.PAll
open Go.RowKit Go.Proofs.YtkndjjceijfdgaaW.PrintWords Go.Proofs.YtkndjjceijfdgaaW.PrintLast Go.Proofs.YtkndjjceijfdgaaW.PrintMore
set_option linter.unusedVariables false
set_option linter.unusedSimpArgs false
theorem rd36_at (l : List S36) (i : Nat) (h : i < l.length) : rd_T36 l (i : Int) = l[i] := by
  unfold rd_T36
  rw [Int.toNat_natCast, List.getD_eq_getElem?_getD, List.getElem?_eq_getElem h]; rfl
theorem same_l0 (l m : List S36) (hl : l.length = m.length) (hb : l.length ≤ 9223372036854775807) (d : Nat) : ∀ (k : Nat) (i : Nat), l.length - i = d → i ≤ l.length → d < k → lanternlaw10_sameKeys.l0 k l m (i : Int) = some (decide (l.drop i = m.drop i)) := by
  induction d with
  | zero =>
    intro k i hd hi hk
    obtain ⟨k, rfl⟩ : ∃ n, k = n + 1 := ⟨k - 1, by omega⟩
    simp only [lanternlaw10_sameKeys.l0]
    rw [if_neg (by omega), List.drop_of_length_le (by omega), List.drop_of_length_le (by omega)]
    simp
  | succ d ih =>
    intro k i hd hi hk
    obtain ⟨k, rfl⟩ : ∃ n, k = n + 1 := ⟨k - 1, by omega⟩
    have hil : i < l.length := by omega
    have him : i < m.length := by omega
    simp only [lanternlaw10_sameKeys.l0]
    rw [if_pos (by omega), if_pos (by omega), if_pos (by omega), rd36_at l i hil, rd36_at m i him, show wrap64 ((i : Int) + 1) = ((i + 1 : Nat) : Int) by unfold wrap64; omega, ih k (i + 1) (by omega) (by omega) (by omega)]
    rw [List.drop_eq_getElem_cons hil, List.drop_eq_getElem_cons him]
    generalize l[i] = a
    generalize m[i] = b
    by_cases hab : a = b
    · subst hab
      rw [if_neg (by simp)]
      simp
    · have : (!(a.f0 == b.f0) || ((!(a.f1.f0 == b.f1.f0) || (!(a.f1.f1 == b.f1.f1))) || (!(a.f2 == b.f2) || (!(a.f3 == b.f3))))) = true := by
        cases hc : (!(a.f0 == b.f0) || ((!(a.f1.f0 == b.f1.f0) || (!(a.f1.f1 == b.f1.f1))) || (!(a.f2 == b.f2) || (!(a.f3 == b.f3))))) with
        | true => rfl
        | false =>
          exfalso
          simp at hc
          exact hab (S36_ext hc.1 hc.2.1.1 hc.2.1.2 hc.2.2.1 hc.2.2.2)
      rw [if_pos this]
      simp [hab]
theorem same_f (l m : List S36) (hb : l.length ≤ 9223372036854775807) : lanternlaw10_sameKeys.f (l.length + 1) l m = some (decide (l = m)) := by
  unfold lanternlaw10_sameKeys.f
  by_cases h : l.length = m.length
  · rw [if_pos (by omega)]
    have := same_l0 l m h hb l.length (l.length + 1) 0 (by omega) (by omega) (by omega)
    simpa using this
  · rw [if_neg (by omega)]
    have : ¬ l = m := fun e => h (by rw [e])
    simp [this]
theorem same_any {A0 A1 : Option Addr} {c0 c1 : Nat} {l0 l1 : List S36} {w : World} (h0 : Kd.C k36 w A0 l0.length l0) (hc0 : l0.length ≤ c0) (h1 : Kd.C k36 w A1 l1.length l1) (hc1 : l1.length ≤ c1) :
    Calls Try.prog 21 #[.slice A0 l0.length c0, .slice A1 l1.length c1] w fun e w' => e = .returned (.bool (decide (l0 = l1))) ∧ ∃ n, w' = w.drewN n :=
  (lanternlaw10_sameKeys.calls _ A0 c0 l0 A1 c1 l1 _ w h0 hc0 h1 hc1 (same_f l0 l1 (Kd.C_max h0))).mono fun e w' ⟨he, n, hn⟩ => ⟨he, n, hn⟩
theorem same_refl {A0 A1 : Option Addr} {c0 c1 : Nat} {l : List S36} {w : World} (h0 : Kd.C k36 w A0 l.length l) (hc0 : l.length ≤ c0) (h1 : Kd.C k36 w A1 l.length l) (hc1 : l.length ≤ c1) :
    Calls Try.prog 21 #[.slice A0 l.length c0, .slice A1 l.length c1] w fun e w' => e = .returned (.bool true) ∧ Below w.heap.size w w' :=
  (same_any h0 hc0 h1 hc1).mono fun e w' ⟨he, n, hn⟩ => ⟨by rw [he, decide_eq_true rfl], by rw [hn]; exact pw_below_drewN (Below.refl _ _) n⟩
end Go.Proofs.Ytkndjjceijfdgaa.PAll
