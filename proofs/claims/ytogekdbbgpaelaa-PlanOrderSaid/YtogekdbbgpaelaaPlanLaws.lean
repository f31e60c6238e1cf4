/- The laws PlanWhen and PlanAdds, over the printed functions: true for every list. -/
import Derived.Test.YtogekdbbgpaelaaPlanTwo
namespace Go.Proofs.Ytogekdbbgpaelaa.PlanFuns
open Go.RowKit Go.Proofs.Ytogekdbbgpaelaa.PAll Go.Proofs.Ytogekdbbgpaelaa.PlanMath Go.Proofs.YtogekdbbgpaelaaW.PrintWords Go.Proofs.YtogekdbbgpaelaaW.PrintLast Go.Proofs.YtogekdbbgpaelaaW.PrintMore
set_option linter.unusedVariables false
set_option linter.unusedSimpArgs false

theorem clamp_clamp (n : Int) : clamp (clamp n) = clamp n := clamp_id (clamp_range n).1 (clamp_range n).2
def two : List S34 := [⟨7, 10, 20, 2⟩, ⟨7, 15, 30, 3⟩]
theorem two_plan : Plan two := by
  refine ⟨by decide, ?_, ?_⟩
  · intro c hc
    simp only [two, List.mem_cons, List.not_mem_nil, or_false] at hc
    rcases hc with rfl | rfl <;> (unfold May; simp)
  · intro c hc
    simp only [two, List.mem_cons, List.not_mem_nil, or_false] at hc
    rcases hc with rfl | rfl <;> decide
theorem awake_ev : Ev (fun k => lanternlaw09_awake.f k) true := by
  obtain ⟨r, h1, _, h2⟩ := When_plan two_plan 7 0 3 (by decide)
  have e : r = 11 := by
    rcases h2 with ⟨h, _⟩ | ⟨_, h⟩
    · exact absurd h (by decide)
    · refine h.unique two_plan.mays (by decide) ?_
      rw [show clamp 0 = 0 by decide]
      exact .inr (by decide)
  subst e
  have h3 := Rate_plan two_plan 7 15
  rw [show rateL two 7 (clamp 15) = 5 by decide] at h3
  unfold lanternlaw09_awake.f
  exact Ev.bind (Ev.now two) (Ev.bind h3 (Ev.bind h1 (Ev.if_pos' rfl (Ev.now _))))

theorem tot_to_one {l : List S34} (h : Plan l) (p : Int) {a b : Int} (ha : 0 ≤ a) (hab : a ≤ b) (hb : b ≤ 1099511627776) : totL l p a b ≤ 1099511627776000 := by
  have := tot_le l h p a b (b - a).toNat (by omega)
  omega

theorem PlanWhen_ev (l : List S34) (p t m : Int) (hm : m ≤ 9223372036854775807) : Ev (fun k => lanternlaw09_PlanWhen.f k l p t m) true := by
  obtain ⟨e, h1, h2, h3⟩ := right_ev l
  unfold lanternlaw09_PlanWhen.f
  refine Ev.bind awake_ev (Ev.bind h1 (Ev.bind h2 (Ev.if_pos' rfl (Ev.if_pos' rfl (Ev.step (fun k => lanternlaw09_PlanWhen.j0.eq_2 ..) ?_)))))
  rcases h3 with ⟨rfl, h⟩ | ⟨hn, _⟩
  · refine Ev.if_neg' (by decide) (Ev.tick3 ?_)
    have ht := clamp_range t
    obtain ⟨r, w1, _, w2⟩ := When_plan h p (clamp t) m hm
    rw [clamp_clamp] at w2
    refine Ev.bind w1 ?_
    rcases w2 with ⟨c, rfl⟩ | ⟨c, w⟩
    · exact Ev.if_pos' c (Ev.congr (fun k => by simp) (Ev.now true))
    · refine Ev.if_neg' (by omega) (Ev.bind (Total_plan h p _ _) ?_)
      rw [clamp_clamp, show clamp 1099511627776 = 1099511627776 by decide]
      rcases w with ⟨rfl, w⟩ | ⟨a1, a2, a3, a4, a5⟩
      · exact Ev.if_pos' (by decide) (Ev.if_pos' rfl (Ev.congr (fun k => by rw [decide_eq_true w]) (Ev.now true)))
      · refine Ev.if_neg' (by omega) (Ev.bind (Total_plan h p _ _) (Ev.bind (Total_plan h p _ _) (Ev.bind (Rate_plan h p _) ?_)))
        rw [clamp_clamp, clamp_id (n := r) (by omega) (by omega), w64 (by omega) (by omega), clamp_id (n := r + 1) (by omega) (by omega)]
        exact Ev.if_pos' a1 (Ev.if_pos' a2 (Ev.if_pos' a3 (Ev.if_pos' a4 (Ev.congr (fun k => by rw [decide_eq_true a5]) (Ev.now true)))))
  · exact Ev.if_pos' (by simpa using hn) (Ev.if_pos' rfl (Ev.congr (fun k => by simp) (Ev.now true)))

theorem mx_max (a b : Int) : mx a b = max a b := by unfold mx; split <;> omega
theorem PlanAdds_ev (l : List S34) (p a b c : Int) : Ev (fun k => lanternlaw09_PlanAdds.f k l p a b c) true := by
  obtain ⟨e, h1, h2, h3⟩ := right_ev l
  unfold lanternlaw09_PlanAdds.f
  refine Ev.bind awake_ev (Ev.bind h1 (Ev.bind h2 (Ev.if_pos' rfl (Ev.if_pos' rfl (Ev.step (fun k => lanternlaw09_PlanAdds.j0.eq_2 ..) ?_)))))
  rcases h3 with ⟨rfl, h⟩ | ⟨hn, _⟩
  · refine Ev.if_neg' (by decide) (Ev.tick3 (Ev.tick3 (Ev.tick3 ?_)))
    have ha := clamp_range a
    have hb := clamp_range b
    have hc := clamp_range c
    simp only [mx_max]
    obtain ⟨A, hA⟩ : ∃ A, A = clamp a := ⟨_, rfl⟩
    obtain ⟨B, hB⟩ : ∃ B, B = max A (clamp b) := ⟨_, rfl⟩
    obtain ⟨C, hC⟩ : ∃ C, C = max B (clamp c) := ⟨_, rfl⟩
    rw [← hA, ← hB, ← hC]
    have l1 : 0 ≤ A := by omega
    have l2 : A ≤ B := by omega
    have l3 : B ≤ C := by omega
    have l4 : C ≤ 1099511627776 := by omega
    clear hA hB hC ha hb hc
    have t1 := Total_plan h p A B
    have t2 := Total_plan h p B C
    have t3 := Total_plan h p A C
    have t4 := Total_plan h p A (wrap64 (A + 1))
    have r1 := Rate_plan h p A
    rw [clamp_id l1 (by omega), clamp_id (by omega : 0 ≤ B) (by omega)] at t1
    rw [clamp_id (by omega : 0 ≤ B) (by omega), clamp_id (by omega : 0 ≤ C) (by omega)] at t2
    rw [clamp_id l1 (by omega), clamp_id (by omega : 0 ≤ C) (by omega)] at t3
    rw [clamp_id l1 (by omega)] at t4 r1
    have x0 := rate_nonneg l h.mays p A
    have x1 := h.rate_low p A
    have n1 := tot_nonneg l h.mays p A B
    have n2 := tot_nonneg l h.mays p B C
    have n3 := tot_to_one h p l1 l2 (by omega)
    have n4 := tot_to_one h p (show 0 ≤ B by omega) l3 (by omega)
    have ad := tot_add l h.mays p A B C l2 l3
    have fin : Ev (fun k => lanternlaw09_PlanAdds.j1 k l p A C (totL l p A C) (rateL l p A) false) true := by
      refine Ev.step (fun k => lanternlaw09_PlanAdds.j1.eq_2 ..) (Ev.if_neg' (by decide) ?_)
      obtain ⟨n, m1, _, m2⟩ := Next_plan h p A
      rw [clamp_id l1 (by omega)] at m2
      refine Ev.bind m1 ?_
      rcases m2 with ⟨rfl, m2⟩ | ⟨m2, m3, m4, m5⟩
      · have r2 := Rate_plan h p C
        rw [clamp_id (by omega : 0 ≤ C) (by omega), m2 C (by omega)] at r2
        refine Ev.if_pos' (by decide) (Ev.bind r2 (Ev.if_pos' rfl (Ev.if_pos' rfl ?_)))
        have hb := when_bounds (x := rateL l p A) (d := C - A) x0 x1 (by omega) (by omega)
        have e : totL l p A C = rateL l p A * (C - A) := by
          rw [tot_run l h.mays p A C (by omega) (fun s s1 s2 => m2 s s1)]
        refine Ev.congr (fun k => ?_) (Ev.now true)
        rw [w64 (x := C - A) (by omega) (by omega), w64 (by omega) (by omega), e]; simp
      · have r2 := Rate_plan h p (wrap64 (n - 1))
        have r3 := Rate_plan h p n
        have t5 := Total_plan h p A n
        rw [w64 (by omega) (by omega)] at r2
        rw [clamp_id (by omega : 0 ≤ n - 1) (by omega), m5 (n - 1) (by omega) (by omega)] at r2
        rw [clamp_id (by omega : 0 ≤ n) (by omega)] at r3
        rw [clamp_id l1 (by omega), clamp_id (by omega : 0 ≤ n) (by omega)] at t5
        have hb := when_bounds (x := rateL l p A) (d := n - A) x0 x1 (by omega) (by omega)
        have e : totL l p A n = rateL l p A * (n - A) := by
          rw [tot_run l h.mays p A n (by omega) (fun s s1 s2 => m5 s s1 s2)]
        refine Ev.if_neg' (by omega) (Ev.congr (fun k => by rw [w64 (x := n - 1) (by omega) (by omega)]) (Ev.bind r2 (Ev.bind r3 (Ev.bind t5 (Ev.if_pos' m2 (Ev.if_pos' m3 (Ev.if_pos' rfl (Ev.if_neg' m4 ?_))))))))
        refine Ev.congr (fun k => ?_) (Ev.now true)
        rw [w64 (x := n - A) (by omega) (by omega), w64 (by omega) (by omega), e]; simp
    refine Ev.bind t1 (Ev.bind t2 (Ev.bind t3 (Ev.bind t4 (Ev.bind r1 (Ev.if_pos' (by rw [w64 (by omega) (by omega)]; exact ad) (Ev.if_neg' (by omega) (Ev.if_neg' (by omega) ?_)))))))
    have gt : decide (rateL l p A > 1000) = false := decide_eq_false (by omega)
    by_cases c1 : A < 1099511627776
    · refine Ev.if_pos' c1 (Ev.if_pos' ?_ (Ev.if_neg' (by omega) ?_))
      · rw [w64 (by omega) (by omega), clamp_id (by omega) (by omega), tot_one l h.mays]
      · rw [gt]; exact fin
    · refine Ev.if_neg' c1 (Ev.if_neg' (by omega) ?_)
      rw [gt]; exact fin
  · exact Ev.if_pos' (by simpa using hn) (Ev.if_pos' rfl (Ev.congr (fun k => by simp) (Ev.now true)))
end Go.Proofs.Ytogekdbbgpaelaa.PlanFuns
