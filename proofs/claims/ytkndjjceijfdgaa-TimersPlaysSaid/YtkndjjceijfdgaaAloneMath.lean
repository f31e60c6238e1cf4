/- The plain law of TimersAlone: what is told of a session's timers. -/
import Derived.Test.YtkndjjceijfdgaaTick2
namespace Go.Proofs.Ytkndjjceijfdgaa.PAll
set_option linter.unusedVariables false
variable {Ta Tb : List (S36 × Int)} {s : S34} {k o : S36} {n : Int}
/-- Ta are those of session s among Tb. -/
def Own (s : S34) (Ta Tb : List (S36 × Int)) : Prop := Ta.Perm (Tb.filter (isOf s))
theorem Own.del (h : Own s Ta Tb) (k : S36) : Own s (delT Ta k) (delT Tb k) := by
  unfold Own delT at *
  rw [List.filter_filter]
  have := h.filter (fun p => !decide (p.1 = k))
  rw [List.filter_filter] at this
  refine this.trans ?_
  rw [List.filter_congr (fun p _ => Bool.and_comm _ _)]
theorem Own.put (h : Own s Ta Tb) (hk : isOf s (k, n) = true) : Own s (putT Ta k n) (putT Tb k n) := by
  have := h.del k
  unfold Own putT at *
  rw [List.filter_cons_of_pos hk]
  exact this.cons _
theorem del_other (ho : isOf s (o, n) = false) : (delT Tb o).filter (isOf s) = Tb.filter (isOf s) := by
  unfold delT
  rw [List.filter_filter]
  refine List.filter_congr (fun p _ => ?_)
  by_cases hp : p.1 = o
  · have : isOf s p = false := by unfold isOf at *; rw [hp]; exact ho
    simp [this]
  · simp [hp]
theorem Own.del_other (h : Own s Ta Tb) (ho : isOf s (o, n) = false) : Own s Ta (delT Tb o) := by
  unfold Own at *; rw [PAll.del_other ho]; exact h
theorem Own.put_other (h : Own s Ta Tb) (ho : isOf s (o, n) = false) : Own s Ta (putT Tb o n) := by
  unfold Own putT at *
  rw [List.filter_cons_of_neg (by simp [ho]), PAll.del_other ho]
  exact h
theorem Own.drop_other {s' : S34} (h : Own s Ta Tb) (hs : ¬ (s'.f0 = s.f0 ∧ s'.f1 = s.f1)) : Own s Ta (dropT Tb s') := by
  unfold Own dropT at *
  rw [List.filter_filter]
  have e : Tb.filter (fun p => isOf s p && !isOf s' p) = Tb.filter (isOf s) := by
    refine List.filter_congr (fun p _ => ?_)
    by_cases h1 : isOf s p = true
    · have : isOf s' p = false := by
        cases h2 : isOf s' p with
        | false => rfl
        | true =>
          exfalso
          unfold isOf at h1 h2
          simp only [Bool.and_eq_true, decide_eq_true_eq] at h1 h2
          exact hs ⟨h2.1.symm.trans h1.1, h2.2.symm.trans h1.2⟩
      simp [this]
    · simp [h1]
  rw [e]; exact h
theorem tick_filter (T : List (S36 × Int)) : tickT [] (T.filter (isOf s)) = (tickT [] T).filter (isOf s) := by
  induction T with
  | nil => rfl
  | cons p T ih =>
    unfold tickT at *
    by_cases hp : isOf s p = true
    · rw [List.filter_cons_of_pos hp]
      by_cases h1 : p.2 = 1
      · have e : tick1 [] p = none := by simp [tick1, h1]
        rw [List.filterMap_cons_none e, List.filterMap_cons_none e, ih]
      · have e : tick1 [] p = some (p.1, p.2 - 1) := by simp [tick1, h1]
        rw [List.filterMap_cons_some e, List.filterMap_cons_some e, List.filter_cons_of_pos (by simpa [isOf] using hp), ih]
    · rw [List.filter_cons_of_neg hp]
      by_cases h1 : p.2 = 1
      · have e : tick1 [] p = none := by simp [tick1, h1]
        rw [List.filterMap_cons_none e, ih]
      · have e : tick1 [] p = some (p.1, p.2 - 1) := by simp [tick1, h1]
        rw [List.filterMap_cons_some e, List.filter_cons_of_neg (by simpa [isOf] using hp), ih]
theorem Own.tick (h : Own s Ta Tb) : Own s (tickT [] Ta) (tickT [] Tb) := by
  unfold Own at *
  rw [← tick_filter]
  exact h.filterMap _
def isKey (s : S34) (k : S36) : Bool := decide (k.f1.f0 = s.f0) && decide (k.f1.f1 = s.f1)
theorem out_filter (T : List (S36 × Int)) : outT [] (T.filter (isOf s)) = (outT [] T).filter (isKey s) := by
  unfold outT
  rw [List.filter_map, List.filter_filter, List.filter_filter]
  congr 1
  refine List.filter_congr (fun p _ => ?_)
  exact Bool.and_comm _ _
theorem sort_filter (f : S36 → Bool) (xs : List S36) : sortK (xs.filter f) = (sortK xs).filter f := by
  have h1 : (sortK (xs.filter f)).Perm ((sortK xs).filter f) := (sortK_perm _).trans ((sortK_perm xs).symm.filter f)
  refine h1.eq_of_pairwise (le := fun x y => ¬ KLt y x) ?_ (sortK_sorted _) ((sortK_sorted xs).sublist List.filter_sublist)
  intro a c _ _ h1 h2
  exact totK a c ((kltB_false _ _).2 h2) ((kltB_false _ _).2 h1)
/-- What runs out of Ta is what runs out of Tb, those of s. -/
theorem Own.out (h : Own s Ta Tb) : sortK (outT [] Ta) = (sortK (outT [] Tb)).filter (isKey s) := by
  rw [← sort_filter, ← out_filter]
  exact sortK_congr ((h.filter _).map _)
theorem filter_len (f : S36 × Int → Bool) : ∀ (l : List (S36 × Int)), l.length = (l.filter f).length + (l.filter (fun p => !f p)).length
  | [] => rfl
  | p :: l => by
    have := filter_len f l
    by_cases h : f p = true
    · rw [List.filter_cons_of_pos h, List.filter_cons_of_neg (by simp [h])]; simp only [List.length_cons]; omega
    · rw [List.filter_cons_of_neg h, List.filter_cons_of_pos (by simpa using h)]; simp only [List.length_cons]; omega
theorem Own.count (h : Own s Ta Tb) : (Tb.length : Int) - (dropT Tb s).length = Ta.length := by
  have h1 := h.length_eq
  have h2 := filter_len (isOf s) Tb
  unfold dropT
  rw [h1]
  omega
end Go.Proofs.Ytkndjjceijfdgaa.PAll
