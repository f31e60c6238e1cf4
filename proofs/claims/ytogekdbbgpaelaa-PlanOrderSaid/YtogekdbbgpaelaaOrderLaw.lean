/- The law PlanOrder, over the printed functions: another order, a contact in two pieces: the same answers, of every list. -/
import Derived.Test.YtogekdbbgpaelaaPlanLaws
import Derived.Test.YtogekdbbgpaelaaOrderWalk
namespace Go.Proofs.Ytogekdbbgpaelaa.PlanFuns
open Go.RowKit Go.Proofs.Ytogekdbbgpaelaa.PAll Go.Proofs.Ytogekdbbgpaelaa.PlanMath Go.Proofs.YtogekdbbgpaelaaW.PrintWords Go.Proofs.YtogekdbbgpaelaaW.PrintLast Go.Proofs.YtogekdbbgpaelaaW.PrintMore
set_option linter.unusedVariables false
set_option linter.unusedSimpArgs false

theorem rate_append : ∀ (l m : List S34) (p t : Int), rateL (l ++ m) p t = rateL l p t + rateL m p t
  | [], m, p, t => by simp [rateL]
  | c :: l, m, p, t => by
    rw [List.cons_append]; simp only [rateL]; rw [rate_append l m p t]; omega
theorem rate_perm {l m : List S34} (h : l.Perm m) (p t : Int) : rateL l p t = rateL m p t := by
  induction h with
  | nil => rfl
  | cons x _ ih => unfold rateL; rw [ih]
  | swap x y l => simp only [rateL]; omega
  | trans _ _ h1 h2 => rw [h1, h2]
/-- Two plans of the same rates have the same totals. -/
theorem tot_same {l m : List S34} (hl : Mays l) (hm : Mays m) (h : ∀ p t, rateL l p t = rateL m p t) (p a : Int) : ∀ (d : Nat) (b : Int), b - a = d → totL l p a b = totL m p a b
  | 0, b, hd => by
    obtain rfl : b = a := by omega
    rw [tot_const l hl p b b (Int.le_refl _) (fun c _ _ => by omega), tot_const m hm p b b (Int.le_refl _) (fun c _ _ => by omega)]
    simp
  | d + 1, b, hd => by
    have e1 := tot_add l hl p a (b - 1) b (by omega) (by omega)
    have e2 := tot_add m hm p a (b - 1) b (by omega) (by omega)
    have i1 := tot_same hl hm h p a d (b - 1) (by omega)
    have o1 := tot_one l hl p (b - 1)
    have o2 := tot_one m hm p (b - 1)
    have e3 : b - 1 + 1 = b := by omega
    rw [e3] at o1 o2
    have := h p (b - 1)
    omega
theorem tot_same' {l m : List S34} (hl : Mays l) (hm : Mays m) (h : ∀ p t, rateL l p t = rateL m p t) (p a b : Int) (hab : a ≤ b) : totL l p a b = totL m p a b := tot_same hl hm h p a (b - a).toNat b (by omega)
theorem next_same {l m : List S34} (h : ∀ p t, rateL l p t = rateL m p t) {p t n : Int} (hn : IsNext l p t n) : IsNext m p t n := by
  rcases hn with ⟨h1, h2⟩ | ⟨h1, h2, h3, h4⟩
  · exact .inl ⟨h1, fun s hs => by rw [← h, ← h]; exact h2 s hs⟩
  · exact .inr ⟨h1, h2, by rw [← h, ← h]; exact h3, fun s s1 s2 => by rw [← h, ← h]; exact h4 s s1 s2⟩
theorem when_same {l m : List S34} (hl : Mays l) (hm : Mays m) (h : ∀ p t, rateL l p t = rateL m p t) {p t k r : Int} (ht : t ≤ 1099511627776) (hn : IsWhen l p t k r) : IsWhen m p t k r := by
  rcases hn with ⟨h1, h2⟩ | ⟨h1, h2, h3, h4, h5⟩
  · exact .inl ⟨h1, by rw [← tot_same' hl hm h p t _ ht]; exact h2⟩
  · exact .inr ⟨h1, h2, by rw [← tot_same' hl hm h p t r h1]; exact h3, by rw [← tot_same' hl hm h p t (r + 1) (by omega)]; exact h4, by rw [← h]; exact h5⟩
theorem eta34 (x : S34) : (⟨x.f0, x.f1, x.f2, x.f3⟩ : S34) = x := rfl
/-- What the end of the law says of two plans of the same rates. -/
theorem order_end {l m : List S34} (hl : Plan l) (hm : Plan m) (h : ∀ p t, rateL l p t = rateL m p t) (p a n : Int) (hn : n ≤ 9223372036854775807) :
    Ev (fun k => (plan_Right.f k m).bind fun t199 => ((plan_Rate.f k l p a).bind fun t200 => ((plan_Rate.f k m p a).bind fun t201 => ((plan_Next.f k l p a).bind fun t202 => ((plan_Next.f k m p a).bind fun t203 => ((plan_Total.f k l p 0 a).bind fun t204 => ((plan_Total.f k m p 0 a).bind fun t205 => ((plan_When.f k l p a n).bind fun t206 => ((plan_When.f k m p a n).bind fun t207 => (if t199 = 0 then (if t200 = t201 then (if t202 = t203 then (if t204 = t205 then (some (t206 == t207)) else (some false)) else (some false)) else (some false)) else (some false))))))))))) true := by
  have ha := clamp_range a
  obtain ⟨x, x1, _, x3⟩ := Next_plan hl p a
  obtain ⟨y, y1, _, y3⟩ := Next_plan hm p a
  obtain rfl := (next_same h x3).unique ha.1 y3
  obtain ⟨u, u1, _, u3⟩ := When_plan hl p a n hn
  obtain ⟨v, v1, _, v3⟩ := When_plan hm p a n hn
  have huv : u = v := by
    rcases u3 with ⟨c, rfl⟩ | ⟨c, u3⟩ <;> rcases v3 with ⟨c', rfl⟩ | ⟨c', v3⟩
    · rfl
    · omega
    · omega
    · exact (when_same hl.mays hm.mays h ha.2 u3).unique hm.mays ha.1 v3
  subst huv
  refine Ev.bind (right_plan hm).1 (Ev.bind (Rate_plan hl p a) (Ev.bind (Rate_plan hm p a) (Ev.bind x1 (Ev.bind y1 (Ev.bind (Total_plan hl p 0 a) (Ev.bind (Total_plan hm p 0 a) (Ev.bind u1 (Ev.bind v1 (Ev.if_pos' rfl (Ev.if_pos' (h _ _) (Ev.if_pos' rfl (Ev.if_pos' (tot_same' hl.mays hm.mays h p _ _ (by rw [show clamp 0 = 0 by decide]; exact ha.1)) ?_))))))))))))
  exact Ev.congr (fun k => by simp) (Ev.now true)
/-- A plan's contacts in another order. -/
theorem Plan.perm {l s m : List S34} (hl : Plan l) (hs : s.length ≤ 100) (hms : Mays s) (hr : ∀ p t, rateL l p t = rateL s p t) (h : m.Perm s) : Plan m ∧ ∀ p t, rateL l p t = rateL m p t := by
  have hh : ∀ p t, rateL l p t = rateL m p t := fun p t => by rw [hr, rate_perm h]
  exact ⟨⟨by rw [h.length_eq]; exact hs, fun c hc => hms c (h.mem_iff.1 hc), fun c _ => by rw [← hh]; exact hl.rate_low _ _⟩, hh⟩
theorem perm_take (o r : List S34) (j : Nat) (hj : j < r.length) : ((o ++ [r[j]]) ++ (r.take j ++ r.drop (j + 1))).Perm (o ++ r) := by
  rw [List.append_assoc]
  refine List.Perm.append_left o ?_
  have h1 : (r.take j ++ r[j] :: r.drop (j + 1)) = r := by rw [← List.drop_eq_getElem_cons hj, List.take_append_drop]
  refine List.Perm.trans ?_ (List.Perm.of_eq h1)
  rw [List.singleton_append]
  exact List.perm_middle.symm
theorem cut_len (r : List S34) (j d : Nat) (hd : r.length = d + 1) (hj : j < r.length) : (r.take j ++ r.drop (j + 1)).length = d := by
  have a : (r.take j).length = j := List.length_take_of_le (Nat.le_of_lt hj)
  have b : (r.drop (j + 1)).length = d - j := by rw [List.length_drop, hd]; omega
  rw [List.length_append, a, b]; omega
theorem cut_lim (r : List S34) (j : Nat) (hj : j < r.length) (hs : r.length ≤ 100) : ([] : List S34).length + (r.take j).length < 4398046511104 ∧ ([] ++ r.take j : List S34).length + (r.drop (j + 1)).length < 4398046511104 := by
  have a : (r.take j).length = j := List.length_take_of_le (Nat.le_of_lt hj)
  have b : (r.drop (j + 1)).length = r.length - (j + 1) := List.length_drop
  constructor
  · rw [List.length_nil, a]; omega
  · rw [List.nil_append, a, b]; omega
/-- One round of the loop takes one of what is left. -/
theorem order_zero (l : List S34) (turn : List Int) (p a n : Int) (i : Nat) (r o : List S34) (h0 : 0 < r.length) (hs : r.length ≤ 100) (ho : o.length ≤ 100) (hi : i ≤ 100) (k : Nat) :
    (if 0 < (r.length : Int) then (if o.length < 4398046511104 then (if 0 ≤ (r.length : Int) then ((some (r.take 0 : List (S34))).bind fun y167 => (if ([] : List (S34)).length + y167.length < 4398046511104 then ((some (([] : List (S34)) ++ y167 : List (S34))).bind fun y171 => (if 0 ≤ ((0 : Int) + 1) then (if (0 + 1) ≤ (r.length : Int) then ((some (r.drop ((0 + 1) : Int).toNat : List (S34))).bind fun y174 => (if y171.length + y174.length < 4398046511104 then (lanternlaw09_PlanOrder.l0 k l turn p a n (y171 ++ y174) (o ++ [(⟨(rd_T34 r 0).f0, (rd_T34 r 0).f1, (rd_T34 r 0).f2, (rd_T34 r 0).f3⟩ : S34)]) (wrap64 ((i : Int) + 1))) else (none))) else (none)) else (none))) else (none))) else (none)) else (none)) else (none))
    = lanternlaw09_PlanOrder.l0 k l turn p a n (r.take 0 ++ r.drop (0 + 1)) (o ++ [r[0]]) ((i + 1 : Nat) : Int) := by
  have e : rd_T34 r ((0 : Nat) : Int) = r[0] := rd_at h0
  have e' : rd_T34 r 0 = r[0] := e
  obtain ⟨g1, g2⟩ := cut_lim r 0 h0 hs
  have g0 : (0 : Int) < (r.length : Int) := by omega
  have g3 : (0 : Int) + 1 ≤ (r.length : Int) := by omega
  have tn : ((0 + 1 : Int)).toNat = 0 + 1 := rfl
  rw [if_pos g0, if_pos (show o.length < 4398046511104 by omega), if_pos (Int.le_of_lt g0)]
  simp only [Option.bind_some]
  rw [if_pos g1, if_pos (show (0 : Int) ≤ (0 : Int) + 1 by decide), if_pos g3, tn, if_pos g2, w64n (show i ≤ 140737488355328 by omega), e', List.nil_append]
theorem order_any (l : List S34) (turn : List Int) (p a n : Int) (i j : Nat) (r o : List S34) (t : Int) (ht : t = (j : Int)) (hj : j < r.length) (hs : r.length ≤ 100) (ho : o.length ≤ 100) (hi : i ≤ 100) (k : Nat) :
    (if 0 ≤ t then (if t < (r.length : Int) then (if o.length < 4398046511104 then (if t ≤ (r.length : Int) then ((some (r.take (t : Int).toNat : List (S34))).bind fun y149 => (if ([] : List (S34)).length + y149.length < 4398046511104 then ((some (([] : List (S34)) ++ y149 : List (S34))).bind fun y153 => (if 0 ≤ (wrap64 (t + 1)) then (if (wrap64 (t + 1)) ≤ (r.length : Int) then ((some (r.drop ((wrap64 (t + 1)) : Int).toNat : List (S34))).bind fun y156 => (if y153.length + y156.length < 4398046511104 then (lanternlaw09_PlanOrder.l0 k l turn p a n (y153 ++ y156) (o ++ [(⟨(rd_T34 r t).f0, (rd_T34 r t).f1, (rd_T34 r t).f2, (rd_T34 r t).f3⟩ : S34)]) (wrap64 ((i : Int) + 1))) else (none))) else (none)) else (none))) else (none))) else (none)) else (none)) else (none)) else (none))
    = lanternlaw09_PlanOrder.l0 k l turn p a n (r.take j ++ r.drop (j + 1)) (o ++ [r[j]]) ((i + 1 : Nat) : Int) := by
  subst ht
  have e : rd_T34 r (j : Int) = r[j] := rd_at hj
  obtain ⟨g1, g2⟩ := cut_lim r j hj hs
  have w1 : wrap64 ((j : Int) + 1) = ((j + 1 : Nat) : Int) := w64n (by omega)
  have w2 : wrap64 ((i : Int) + 1) = ((i + 1 : Nat) : Int) := w64n (by omega)
  have g3 : ((j + 1 : Nat) : Int) ≤ (r.length : Int) := by omega
  rw [if_pos (show (0 : Int) ≤ (j : Int) by omega), if_pos (show (j : Int) < (r.length : Int) by omega), if_pos (show o.length < 4398046511104 by omega), if_pos (show (j : Int) ≤ (r.length : Int) by omega)]
  rw [Option.bind_some, Int.toNat_natCast, if_pos g1, Option.bind_some, w1, if_pos (show (0 : Int) ≤ ((j + 1 : Nat) : Int) by omega), if_pos g3, Option.bind_some, Int.toNat_natCast, if_pos g2, w2, e, List.nil_append]
theorem order_round (l : List S34) (turn : List Int) (p a n : Int) (i : Nat) (r o : List S34) (h0 : 0 < r.length) (hs : r.length ≤ 100) (ho : o.length ≤ 100) (hi : i ≤ 100)
    (H : ∀ (j : Nat) (hj : j < r.length), Ev (fun k => lanternlaw09_PlanOrder.l0 k l turn p a n (r.take j ++ r.drop (j + 1)) (o ++ [r[j]]) ((i + 1 : Nat) : Int)) true) :
    Ev (fun k => lanternlaw09_PlanOrder.l0 k l turn p a n r o (i : Int)) true := by
  refine Ev.step (fun k => lanternlaw09_PlanOrder.l0.eq_2 ..) (Ev.if_pos' (by omega) ?_)
  by_cases c1 : (i : Int) < (turn.length : Int)
  · refine Ev.if_pos' c1 (Ev.if_pos' (by omega) ?_)
    by_cases c2 : rd turn (i : Int) ≥ 0
    · refine Ev.if_pos' c2 (Ev.if_neg' (by omega) ?_)
      have t1 : 0 ≤ Int.tmod (rd turn (i : Int)) (r.length : Int) := Int.tmod_nonneg _ c2
      have t2 : Int.tmod (rd turn (i : Int)) (r.length : Int) < (r.length : Int) := Int.tmod_lt_of_pos _ (by omega)
      have ht := (Int.toNat_of_nonneg t1).symm
      have hj : (Int.tmod (rd turn (i : Int)) (r.length : Int)).toNat < r.length := (Int.toNat_lt t1).2 t2
      exact Ev.congr (fun k => order_any l turn p a n i _ r o _ ht hj hs ho hi k) (H _ hj)
    · exact Ev.if_neg' c2 (Ev.congr (fun k => order_zero l turn p a n i r o h0 hs ho hi k) (H 0 h0))
  · exact Ev.if_neg' c1 (Ev.congr (fun k => order_zero l turn p a n i r o h0 hs ho hi k) (H 0 h0))
theorem order_loop {l s : List S34} (hl : Plan l) (hs : s.length ≤ 100) (hms : Mays s) (hr : ∀ p t, rateL l p t = rateL s p t) (turn : List Int) (p a n : Int) (hn : n ≤ 9223372036854775807) (d : Nat) :
    ∀ (i : Nat) (r o : List S34), r.length = d → i + d ≤ 100 → (o ++ r).Perm s → Ev (fun k => lanternlaw09_PlanOrder.l0 k l turn p a n r o (i : Int)) true := by
  induction d with
  | zero =>
    intro i r o hd hi hp
    obtain rfl : r = [] := List.eq_nil_of_length_eq_zero hd
    rw [List.append_nil] at hp
    obtain ⟨hm, hh⟩ := Plan.perm hl hs hms hr hp
    refine Ev.step (fun k => lanternlaw09_PlanOrder.l0.eq_2 ..) (Ev.if_neg' (by simp) ?_)
    exact order_end hl hm hh p a n hn
  | succ d ih =>
    intro i r o hd hi hp
    have hlen := hp.length_eq
    rw [List.length_append] at hlen
    refine order_round l turn p a n i r o (by omega) (by omega) (by omega) (by omega) (fun j hj => ?_)
    exact ih (i + 1) _ _ (cut_len r j d hd hj) (by omega) ((perm_take o r j hj).trans hp)
/-- A contact in two pieces. -/
def split (c : S34) (at_ : Int) (l : List S34) : List S34 := ⟨c.f0, c.f1, at_, c.f3⟩ :: l ++ [⟨c.f0, at_, c.f2, c.f3⟩]
theorem split_rate (c : S34) (at_ : Int) (l : List S34) (h1 : c.f1 < at_) (h2 : at_ < c.f2) (p t : Int) : rateL (c :: l) p t = rateL (split c at_ l) p t := by
  unfold split
  rw [rate_append]
  simp only [rateL]
  by_cases e : c.f0 = p
  · simp only [e, true_and]
    by_cases a : c.f1 ≤ t ∧ t < c.f2
    · rw [if_pos a]
      by_cases b : t < at_
      · rw [if_pos ⟨a.1, b⟩, if_neg (by omega)]; omega
      · rw [if_neg (by omega), if_pos ⟨by omega, a.2⟩]; omega
    · rw [if_neg a, if_neg (by omega), if_neg (by omega)]; omega
  · simp only [e, false_and, if_false]; omega
theorem split_mays (c : S34) (at_ : Int) (l : List S34) (hm : Mays (c :: l)) (h1 : c.f1 < at_) (h2 : at_ < c.f2) : Mays (split c at_ l) := by
  have hc := hm c (List.mem_cons_self ..)
  unfold May at hc
  intro x hx
  unfold split at hx
  rcases List.mem_append.1 hx with hx | hx
  · rcases List.mem_cons.1 hx with rfl | hx
    · unfold May; simp only; omega
    · exact hm x (List.mem_cons_of_mem _ hx)
  · obtain rfl := List.mem_singleton.1 hx
    unfold May; simp only; omega
theorem order_j2 {l s : List S34} (hl : Plan l) (hs : s.length ≤ 100) (hms : Mays s) (hr : ∀ p t, rateL l p t = rateL s p t) (turn : List Int) (p a n : Int) (hn : n ≤ 9223372036854775807) :
    Ev (fun k => lanternlaw09_PlanOrder.j2 k l turn p a n s) true :=
  Ev.step (fun k => lanternlaw09_PlanOrder.j2.eq_2 ..) (order_loop hl hs hms hr turn p a n hn s.length 0 s [] rfl (by omega) (List.Perm.refl _))
theorem order_j1 {c : S34} {l : List S34} (hl : Plan (c :: l)) (hs : (c :: l).length < 100) (turn : List Int) (p a n at_ : Int) (hn : n ≤ 9223372036854775807) (h1 : c.f1 < at_) :
    Ev (fun k => lanternlaw09_PlanOrder.j1 k (c :: l) turn p a n (c :: l) at_ c.f0 c.f1 c.f2 c.f3) true := by
  refine Ev.step (fun k => lanternlaw09_PlanOrder.j1.eq_2 ..) ?_
  by_cases h2 : at_ < c.f2
  · have g0 : (0 : Int) < ((c :: l).length : Int) := by simp only [List.length_cons]; omega
    have g1 : ((c :: l).set (0 : Int).toNat (⟨(rd_T34 (c :: l) 0).f0, (rd_T34 (c :: l) 0).f1, at_, (rd_T34 (c :: l) 0).f3⟩ : S34)).length < 4398046511104 := by rw [List.length_set]; omega
    refine Ev.if_pos' h2 (Ev.if_pos' g0 (Ev.bind (Ev.now _) (Ev.if_pos' g1 ?_)))
    refine order_j2 hl (s := split c at_ l) ?_ (split_mays c at_ l hl.mays h1 h2) (split_rate c at_ l h1 h2) turn p a n hn
    unfold split
    simp only [List.length_append, List.length_cons, List.length_nil] at hs ⊢
    omega
  · exact Ev.if_neg' h2 (order_j2 hl (Nat.le_of_lt hs) hl.mays (fun _ _ => rfl) turn p a n hn)
theorem PlanOrder_ev (l : List S34) (turn : List Int) (cut p a n : Int) (hn : n ≤ 9223372036854775807) : Ev (fun k => lanternlaw09_PlanOrder.f k l turn cut p a n) true := by
  obtain ⟨e, h1, h2, h3⟩ := right_ev l
  have stop : Ev (fun k => lanternlaw09_PlanOrder.j0 k l turn cut p a n true e e true) true :=
    Ev.step (fun k => lanternlaw09_PlanOrder.j0.eq_2 ..) (Ev.if_pos' rfl (Ev.if_pos' rfl (Ev.congr (fun k => by simp) (Ev.now true))))
  refine Ev.bind awake_ev (Ev.bind h1 (Ev.bind h2 (Ev.if_pos' rfl (Ev.if_pos' rfl ?_))))
  rcases h3 with ⟨rfl, h⟩ | ⟨hne, _⟩
  · refine Ev.if_pos' rfl ?_
    by_cases c0 : (l.length : Int) = 0
    · exact Ev.if_pos' c0 stop
    · refine Ev.if_neg' c0 ?_
      by_cases c1 : (l.length : Int) ≥ 100
      · rw [decide_eq_true c1]; exact stop
      · rw [decide_eq_false c1]
        match l, h, c0, c1 with
        | [], _, c0, _ => exact absurd rfl c0
        | c :: l, h, c0, c1 =>
          have hc := h.mays c (List.mem_cons_self ..)
          unfold May at hc
          have hs : (c :: l).length < 100 := by omega
          have hm : ([] : List S34).length + (c :: l).length < 4398046511104 := by rw [List.length_nil]; omega
          have g0 : (0 : Int) < (([] ++ (c :: l) : List S34).length : Int) := by rw [List.nil_append]; omega
          refine Ev.step (fun k => lanternlaw09_PlanOrder.j0.eq_2 ..) (Ev.if_neg' (by decide) (Ev.if_pos' hm (Ev.bind (Ev.now _) (Ev.if_pos' g0 ?_))))
          have e0 : rd_T34 ([] ++ (c :: l)) 0 = c := rfl
          rw [List.nil_append] at e0 ⊢
          rw [e0]
          have w1 : wrap64 (c.f2 - c.f1) = c.f2 - c.f1 := w64 (by omega) (by omega)
          have w2 : wrap64 (c.f1 + 1) = c.f1 + 1 := w64 (by omega) (by omega)
          rw [w1, w2]
          by_cases c2 : cut ≥ 0
          · have t1 : 0 ≤ Int.tmod cut (c.f2 - c.f1) := Int.tmod_nonneg _ c2
            have t2 : Int.tmod cut (c.f2 - c.f1) < c.f2 - c.f1 := Int.tmod_lt_of_pos _ (by omega)
            generalize Int.tmod cut (c.f2 - c.f1) = q at t1 t2 ⊢
            refine Ev.if_pos' c2 (Ev.if_neg' (by omega) ?_)
            rw [w64 (by omega) (by omega)]
            exact order_j1 h hs turn p a n _ hn (by omega)
          · exact Ev.if_neg' c2 (order_j1 h hs turn p a n _ hn (by omega))
  · exact Ev.if_neg' hne stop
end Go.Proofs.Ytogekdbbgpaelaa.PlanFuns
