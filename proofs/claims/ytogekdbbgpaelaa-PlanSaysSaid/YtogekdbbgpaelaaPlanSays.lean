/- What the parts of the law PlanSays come to: program and reference answer alike, of every list; a list is the same as itself. -/
import Derived.Test.YtogekdbbgpaelaaPlanLaws
namespace Go.Proofs.Ytogekdbbgpaelaa.PlanFuns
open Go.RowKit Go.Proofs.Ytogekdbbgpaelaa.PAll Go.Proofs.Ytogekdbbgpaelaa.PlanMath Go.Proofs.YtogekdbbgpaelaaW.PrintWords Go.Proofs.YtogekdbbgpaelaaW.PrintLast Go.Proofs.YtogekdbbgpaelaaW.PrintMore
set_option linter.unusedVariables false
set_option linter.unusedSimpArgs false

/-- All five calls, of a list that may be a plan or not. -/
theorem five (l : List S34) (p a b m : Int) (hm : m ≤ 9223372036854775807) : ∃ e r n t w,
    (Ev (fun k => plan_Right.f k l) e ∧ Ev (fun k => lanternref09_Right.f k l) e) ∧
    (Ev (fun k => plan_Rate.f k l p a) r ∧ Ev (fun k => lanternref09_Rate.f k l p a) r) ∧
    (Ev (fun k => plan_Next.f k l p a) n ∧ Ev (fun k => lanternref09_Next.f k l p a) n) ∧
    (Ev (fun k => plan_Total.f k l p a b) t ∧ Ev (fun k => lanternref09_Total.f k l p a b) t) ∧
    (Ev (fun k => plan_When.f k l p a m) w ∧ Ev (fun k => lanternref09_When.f k l p a m) w) := by
  obtain ⟨e, h1, h2, h3⟩ := right_ev l
  rcases h3 with ⟨rfl, h⟩ | ⟨hn, _⟩
  · obtain ⟨n, n1, n2, _⟩ := Next_plan h p a
    obtain ⟨r, r1, r2, _⟩ := When_plan h p a m hm
    exact ⟨0, _, n, _, r, ⟨h1, h2⟩, ⟨Rate_plan h p a, rRate_plan h p a⟩, ⟨n1, n2⟩, ⟨Total_plan h p a b, rTotal_plan h p a b⟩, ⟨r1, r2⟩⟩
  · exact ⟨e, 0, -1, 0, -1, ⟨h1, h2⟩, ⟨Ev.bind h1 (Ev.if_neg' hn (Ev.now _)), Ev.bind h2 (Ev.if_neg' hn (Ev.now _))⟩, ⟨Ev.bind h1 (Ev.if_neg' hn (Ev.now _)), Ev.bind h2 (Ev.if_neg' hn (Ev.now _))⟩,
      ⟨Ev.bind h1 (Ev.if_neg' hn (Ev.now _)), Ev.bind h2 (Ev.if_neg' hn (Ev.now _))⟩, ⟨Ev.bind h1 (Ev.if_neg' hn (Ev.now _)), Ev.bind h2 (Ev.if_neg' hn (Ev.now _))⟩⟩
theorem says_ev (l : List S34) (p a b m : Int) (hm : m ≤ 9223372036854775807) : Ev (fun k => lanternlaw09_says.f k l l p a b m) true := by
  obtain ⟨e, r, n, t, w, ⟨e1, e2⟩, ⟨r1, r2⟩, ⟨n1, n2⟩, ⟨t1, t2⟩, ⟨w1, w2⟩⟩ := five l p a b m hm
  unfold lanternlaw09_says.f
  refine Ev.bind e2 (Ev.bind r2 (Ev.bind n2 (Ev.bind t2 (Ev.bind w2 (Ev.bind e1 (Ev.bind r1 (Ev.bind n1 (Ev.bind t1 (Ev.bind w1 (Ev.if_pos' rfl (Ev.if_pos' rfl (Ev.if_pos' rfl (Ev.if_pos' rfl ?_)))))))))))))
  exact Ev.congr (fun k => by simp) (Ev.now true)
theorem same_loop (l : List S34) (hl : l.length ≤ 140737488355328) : ∀ (d i : Nat), i + d = l.length → Ev (fun k => lanternlaw09_same.l0 k l l (i : Int)) true
  | 0, i, hd => by
    refine Ev.step (f := fun _ => some true) (fun k => ?_) (Ev.now _)
    simp only [lanternlaw09_same.l0]; rw [if_neg (by omega)]
  | d + 1, i, hd => by
    refine Ev.step (fun k => ?_) (same_loop l hl d (i + 1) (by omega))
    simp only [lanternlaw09_same.l0]; rw [if_pos (by omega), if_pos (by omega), if_pos (by omega), if_neg (by simp), w64n (by omega)]
theorem same_ev (l : List S34) (hl : l.length ≤ 140737488355328) : Ev (fun k => lanternlaw09_same.f k l l) true := by
  unfold lanternlaw09_same.f
  exact Ev.if_pos' rfl (same_loop l hl l.length 0 (by omega))
def marks : List S34 := [⟨-77, 0, 0, 0⟩, ⟨-78, 0, 0, 0⟩]
theorem Lent_f (l : List S34) (hl : l.length * 32 ≤ 140737488351232) : lanternlaw09_Lent.f l = some (l ++ marks) := by
  unfold lanternlaw09_Lent.f
  rw [if_pos (by simp; omega)]
  simp only [Option.bind_some, List.nil_append]
  rw [if_pos (by simp only [List.length_cons, List.length_nil]; omega)]
  rfl
theorem Ev.all3 {α β γ : Type} {f : Nat → Option α} {g : Nat → Option β} {h : Nat → Option γ} {a : α} {b : β} {c : γ} (h1 : Ev f a) (h2 : Ev g b) (h3 : Ev h c) : ∃ k, f k = some a ∧ g k = some b ∧ h k = some c := by
  obtain ⟨A, hA⟩ := h1
  obtain ⟨B, hB⟩ := h2
  obtain ⟨C, hC⟩ := h3
  exact ⟨max A (max B C), hA _ (by omega), hB _ (by omega), hC _ (by omega)⟩
/-- The list behind i rounds of the law's loop. -/
def later (l : List S34) : Nat → List S34
  | 0 => l
  | i + 1 => (later l i).set i ⟨(rd_T34 (later l i) (i : Int)).f0, wrap64 ((rd_T34 (later l i) (i : Int)).f1 + 1), (rd_T34 (later l i) (i : Int)).f2, 1 + (i : Int) % 7⟩
theorem later_length (l : List S34) : ∀ i, (later l i).length = l.length
  | 0 => rfl
  | i + 1 => by rw [later, List.length_set, later_length l i]
end Go.Proofs.Ytogekdbbgpaelaa.PlanFuns
