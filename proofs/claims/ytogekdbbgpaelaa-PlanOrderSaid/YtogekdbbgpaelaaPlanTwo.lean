/- Rate, Total, Next and When of plans: what the printed functions come to. -/
import Derived.Test.YtogekdbbgpaelaaPlanFuns
namespace Go.Proofs.Ytogekdbbgpaelaa.PlanFuns
open Go.RowKit Go.Proofs.Ytogekdbbgpaelaa.PAll Go.Proofs.Ytogekdbbgpaelaa.PlanMath Go.Proofs.YtogekdbbgpaelaaW.PrintWords Go.Proofs.YtogekdbbgpaelaaW.PrintLast Go.Proofs.YtogekdbbgpaelaaW.PrintMore
set_option linter.unusedVariables false
set_option linter.unusedSimpArgs false

theorem Ev.if_pos' {α : Type} {c : Prop} [Decidable c] {f g : Nat → Option α} {r : α} (hc : c) (h : Ev f r) : Ev (fun k => if c then f k else g k) r := Ev.congr (fun k => by rw [if_pos hc]) h
theorem Ev.if_neg' {α : Type} {c : Prop} [Decidable c] {f g : Nat → Option α} {r : α} (hc : ¬ c) (h : Ev g r) : Ev (fun k => if c then f k else g k) r := Ev.congr (fun k => by rw [if_neg hc]) h
theorem Ev.tick1 {α : Type} {n : Int} {f : Nat → Int → Option α} {r : α} (h : Ev (fun k => f k (clamp n)) r) : Ev (fun k => (plan_tick.f n).bind (f k)) r := Ev.congr (fun k => by rw [PlanFuns.tick1]; rfl) h
theorem Ev.tick2 {α : Type} {n : Int} {f : Nat → Int → Option α} {r : α} (h : Ev (fun k => f k (clamp n)) r) : Ev (fun k => (lanternref09_tick.f n).bind (f k)) r := Ev.congr (fun k => by rw [PlanFuns.tick2]; rfl) h
theorem Ev.tick3 {α : Type} {n : Int} {f : Nat → Int → Option α} {r : α} (h : Ev (fun k => f k (clamp n)) r) : Ev (fun k => (lanternlaw09_tick.f n).bind (f k)) r := Ev.congr (fun k => by rw [PlanFuns.tick3]; rfl) h

/-! Rate -/
theorem Rate_plan {l : List S34} (h : Plan l) (p t : Int) : Ev (fun k => plan_Rate.f k l p t) (rateL l p (clamp t)) :=
  Ev.bind (right_plan h).1 (Ev.if_pos' rfl (Ev.tick1 (rate_ev l h.short h.mays p _)))
theorem rRate_plan {l : List S34} (h : Plan l) (p t : Int) : Ev (fun k => lanternref09_Rate.f k l p t) (rateL l p (clamp t)) :=
  Ev.bind (right_plan h).2 (Ev.if_pos' rfl (Ev.tick2 (Ev.bind (rate_ev l h.short h.mays p _) (Ev.now _))))

/-! Total -/
theorem ov_of (a b f t : Int) : mx 0 (mn b t - mx a f) = ov a b f t := by unfold mx mn ov; repeat' split <;> omega
theorem ov_le {a b f t : Int} (ha : 0 ≤ a) (hb : b ≤ 1099511627776) : ov a b f t ≤ 1099511627776 := by unfold ov; omega
theorem tot_loop (l : List S34) (hl : l.length ≤ 100) (hm : Mays l) (p a b : Int) (ha : 0 ≤ a) (ha' : a ≤ 1099511627776) (hb0 : 0 ≤ b) (hb : b ≤ 1099511627776) : ∀ (d i : Nat) (acc : Int), i + d = l.length → 0 ≤ acc → acc ≤ 1099511627776000 * i →
    Ev (fun k => plan_Total.l0 k l p a b acc (l.length : Int) (i : Int)) (acc + totL (l.drop i) p a b) ∧ Ev (fun k => lanternref09_Total.l0 k l p a b acc (i : Int)) (acc + totL (l.drop i) p a b)
  | 0, i, acc, hd, h0, h1 => by
    refine ⟨Ev.step (f := fun _ => some (acc + totL (l.drop i) p a b)) (fun k => ?_) (Ev.now _), Ev.step (f := fun _ => some (acc + totL (l.drop i) p a b)) (fun k => ?_) (Ev.now _)⟩
    · simp only [plan_Total.l0]
      rw [if_neg (by omega), List.drop_eq_nil_of_le (by omega)]
      simp [totL]
    · simp only [lanternref09_Total.l0]
      rw [if_neg (by omega), List.drop_eq_nil_of_le (by omega)]
      simp [totL]
  | d + 1, i, acc, hd, h0, h1 => by
    have hi : i < l.length := by omega
    have hc := hm l[i] (List.getElem_mem hi)
    unfold May at hc
    have e0 := rd_at hi
    rw [drop_at hi]
    by_cases c : l[i].f0 = p
    · have o1 := ov_nonneg a b l[i].f1 l[i].f2
      have o2 := ov_le (f := l[i].f1) (t := l[i].f2) ha hb
      have m1 := Int.mul_nonneg (show (0 : Int) ≤ l[i].f3 by omega) o1
      have m2 : l[i].f3 * ov a b l[i].f1 l[i].f2 ≤ 1000 * ov a b l[i].f1 l[i].f2 := Int.mul_le_mul_of_nonneg_right (by omega) o1
      have ih := tot_loop l hl hm p a b ha ha' hb0 hb d (i + 1) (acc + l[i].f3 * ov a b l[i].f1 l[i].f2) (by omega) (by omega) (by omega)
      have e1 : acc + l[i].f3 * ov a b l[i].f1 l[i].f2 + totL (l.drop (i + 1)) p a b = acc + totL (l[i] :: l.drop (i + 1)) p a b := by
        rw [totL, if_pos c]; omega
      rw [e1] at ih
      refine ⟨Ev.step (fun k => ?_) ih.1, Ev.step (fun k => ?_) ih.2⟩
      · simp only [plan_Total.l0]
        have w1 : wrap64 (mn b l[i].f2 - mx a l[i].f1) = mn b l[i].f2 - mx a l[i].f1 := w64 (by unfold mn mx; split <;> split <;> omega) (by unfold mn mx; split <;> split <;> omega)
        rw [if_pos (by omega), if_pos (by omega), if_pos (by omega), e0, if_pos c, w1, ov_of, w64 (x := l[i].f3 * _) (by omega) (by omega), w64 (by omega) (by omega), w64n (by omega)]
      · simp only [lanternref09_Total.l0]
        rw [if_pos (by omega), if_pos (by omega), e0, if_pos c, w64n (by omega)]
        by_cases o : mx l[i].f1 a < mn l[i].f2 b
        · have w1 : wrap64 (mn l[i].f2 b - mx l[i].f1 a) = ov a b l[i].f1 l[i].f2 := by
            rw [w64 (by unfold mn mx; split <;> split <;> omega) (by unfold mn mx; split <;> split <;> omega)]
            revert o; unfold mx mn ov; repeat' split <;> omega
          rw [if_pos o, w1, Int.mul_comm, w64 (x := l[i].f3 * _) (by omega) (by omega), w64 (by omega) (by omega)]
        · have w1 : ov a b l[i].f1 l[i].f2 = 0 := by revert o; unfold mx mn ov; repeat' split <;> omega
          rw [if_neg o, w1, Int.mul_zero, Int.add_zero]
    · have ih := tot_loop l hl hm p a b ha ha' hb0 hb d (i + 1) acc (by omega) (by omega) (by omega)
      have e1 : acc + totL (l.drop (i + 1)) p a b = acc + totL (l[i] :: l.drop (i + 1)) p a b := by
        rw [totL, if_neg c]; omega
      rw [e1] at ih
      refine ⟨Ev.step (fun k => ?_) ih.1, Ev.step (fun k => ?_) ih.2⟩
      · simp only [plan_Total.l0]
        rw [if_pos (by omega), if_pos (by omega), if_pos (by omega), e0, if_neg c, w64n (by omega)]
      · simp only [lanternref09_Total.l0]
        rw [if_pos (by omega), if_pos (by omega), e0, if_neg c, w64n (by omega)]
theorem tot_ev {l : List S34} (h : Plan l) (p : Int) {a b : Int} (ha : 0 ≤ a) (ha' : a ≤ 1099511627776) (hb0 : 0 ≤ b) (hb : b ≤ 1099511627776) :
    Ev (fun k => plan_Total.l0 k l p a b 0 (l.length : Int) 0) (totL l p a b) ∧ Ev (fun k => lanternref09_Total.l0 k l p a b 0 0) (totL l p a b) := by
  have := tot_loop l h.short h.mays p a b ha ha' hb0 hb l.length 0 0 (by omega) (by omega) (by omega)
  simpa using this
theorem Total_plan {l : List S34} (h : Plan l) (p a b : Int) : Ev (fun k => plan_Total.f k l p a b) (totL l p (clamp a) (clamp b)) :=
  Ev.bind (right_plan h).1 (Ev.if_pos' rfl (Ev.tick1 (Ev.tick1 (tot_ev h p (clamp_range a).1 (clamp_range a).2 (clamp_range b).1 (clamp_range b).2).1)))
theorem rTotal_plan {l : List S34} (h : Plan l) (p a b : Int) : Ev (fun k => lanternref09_Total.f k l p a b) (totL l p (clamp a) (clamp b)) :=
  Ev.bind (right_plan h).2 (Ev.if_pos' rfl (Ev.tick2 (Ev.tick2 (tot_ev h p (clamp_range a).1 (clamp_range a).2 (clamp_range b).1 (clamp_range b).2).2)))

/-! Next -/
def IsNext (l : List S34) (p t n : Int) : Prop :=
  (n = -1 ∧ ∀ s, t ≤ s → rateL l p s = rateL l p t) ∨ (t < n ∧ n ≤ 1099511627776 ∧ rateL l p n ≠ rateL l p t ∧ ∀ s, t ≤ s → s < n → rateL l p s = rateL l p t)
theorem IsNext.unique {l : List S34} {p t n n' : Int} (ht : 0 ≤ t) (h : IsNext l p t n) (h' : IsNext l p t n') : n = n' := by
  rcases h with ⟨rfl, h⟩ | ⟨h1, h2, h3, h4⟩ <;> rcases h' with ⟨rfl, h'⟩ | ⟨h1', h2', h3', h4'⟩
  · rfl
  · exact absurd (h n' (by omega)) h3'
  · exact absurd (h' n (by omega)) h3
  · by_cases a : n < n'
    · exact absurd (h4' n (by omega) a) h3
    · by_cases b : n' < n
      · exact absurd (h4 n' (by omega) b) h3'
      · omega
theorem next_loop {l : List S34} (h : Plan l) (p t : Int) (ht : 0 ≤ t) (ht' : t ≤ 1099511627776) : ∀ (N : Nat) (cur e : Int), ends l p cur < N → t ≤ cur → IsEdge l p cur e → (∀ s, t ≤ s → s ≤ cur → rateL l p s = rateL l p t) →
    ∃ n, Ev (fun k => plan_Next.l0 k l p t e) n ∧ Ev (fun k => lanternref09_Next.l0 k l p (rateL l p t) e) n ∧ IsNext l p t n
  | 0, _, _, hN, _, _, _ => by omega
  | N + 1, cur, e, hN, hc, he, hr => by
    by_cases e0 : e ≥ 0
    · have r1 := rate_ev l h.short h.mays p e
      have r2 := rate_ev l h.short h.mays p t
      have hlt : cur < e := by rcases he with ⟨rfl, _⟩ | ⟨q, _⟩; omega; exact q
      have hm : ∃ c ∈ l, c.f0 = p ∧ (c.f1 = e ∨ c.f2 = e) := by rcases he with ⟨rfl, _⟩ | ⟨_, q, _⟩; omega; exact q
      have hle := edge_le h.mays he
      have hs : ∀ s, t ≤ s → s < e → rateL l p s = rateL l p t := by
        intro s s1 s2
        by_cases s3 : s ≤ cur
        · exact hr s s1 s3
        · rw [rate_const l p cur e s (by omega) s2 (edge_const he e0)]
          exact hr cur hc (Int.le_refl _)
      by_cases c : rateL l p e = rateL l p t
      · obtain ⟨z, hz1, hz2⟩ := edge_ev l h.short h.mays p e e0
        obtain ⟨z', hz1', hz2'⟩ := redge_ev l h.short h.mays p e e0
        obtain rfl := hz2.unique e0 hz2'
        obtain ⟨n, n1, n2, n3⟩ := next_loop h p t ht ht' N e z (by have := ends_lt l p cur e hlt hm; omega) (by omega) hz2 (by
          intro s s1 s2
          by_cases s3 : s < e
          · exact hs s s1 s3
          · obtain rfl : s = e := by omega
            exact c)
        refine ⟨n, Ev.step (fun k => plan_Next.l0.eq_2 ..) (Ev.if_pos' e0 (Ev.bind r1 (Ev.bind r2 (Ev.if_pos' c (Ev.bind hz1 n1))))), Ev.step (fun k => lanternref09_Next.l0.eq_2 ..) (Ev.if_pos' e0 (Ev.bind r1 (Ev.if_pos' c (Ev.bind hz1' n2)))), n3⟩
      · exact ⟨e, Ev.step (fun k => plan_Next.l0.eq_2 ..) (Ev.if_pos' e0 (Ev.bind r1 (Ev.bind r2 (Ev.if_neg' c (Ev.now _))))), Ev.step (fun k => lanternref09_Next.l0.eq_2 ..) (Ev.if_pos' e0 (Ev.bind r1 (Ev.if_neg' c (Ev.now _)))), .inr ⟨by omega, hle, c, hs⟩⟩
    · refine ⟨-1, Ev.step (fun k => plan_Next.l0.eq_2 ..) (Ev.if_neg' e0 (Ev.now _)), Ev.step (fun k => lanternref09_Next.l0.eq_2 ..) (Ev.if_neg' e0 (Ev.now _)), .inl ⟨rfl, ?_⟩⟩
      intro s hs
      have he1 : e = -1 := by rcases he with ⟨q, _⟩ | ⟨q, _⟩ <;> omega
      subst he1
      by_cases s3 : s ≤ cur
      · exact hr s hs s3
      · rw [← hr cur hc (Int.le_refl _), no_edge_rate he (by omega) (by omega), no_edge_rate he (by omega) (Int.le_refl _)]
theorem Next_plan {l : List S34} (h : Plan l) (p t : Int) : ∃ n, Ev (fun k => plan_Next.f k l p t) n ∧ Ev (fun k => lanternref09_Next.f k l p t) n ∧ IsNext l p (clamp t) n := by
  have ht := clamp_range t
  obtain ⟨z, hz1, hz2⟩ := edge_ev l h.short h.mays p (clamp t) ht.1
  obtain ⟨z', hz1', hz2'⟩ := redge_ev l h.short h.mays p (clamp t) ht.1
  obtain rfl := hz2.unique ht.1 hz2'
  obtain ⟨n, n1, n2, n3⟩ := next_loop h p (clamp t) ht.1 ht.2 (ends l p (clamp t) + 1) (clamp t) z (by omega) (Int.le_refl _) hz2 (fun s s1 s2 => by rw [show s = clamp t by omega])
  exact ⟨n, Ev.bind (right_plan h).1 (Ev.if_pos' rfl (Ev.tick1 (Ev.bind hz1 n1))), Ev.bind (right_plan h).2 (Ev.if_pos' rfl (Ev.tick2 (Ev.bind (rate_ev l h.short h.mays p _) (Ev.bind hz1' n2)))), n3⟩

/-! When -/
def IsWhen (l : List S34) (p t m r : Int) : Prop :=
  (r = -1 ∧ totL l p t 1099511627776 < m) ∨ (t ≤ r ∧ r < 1099511627776 ∧ totL l p t r < m ∧ m ≤ totL l p t (r + 1) ∧ 0 < rateL l p r)
theorem IsWhen.unique {l : List S34} (hm : Mays l) {p t m r r' : Int} (ht : 0 ≤ t) (h : IsWhen l p t m r) (h' : IsWhen l p t m r') : r = r' := by
  rcases h with ⟨rfl, h⟩ | ⟨h1, h2, h3, h4, _⟩ <;> rcases h' with ⟨rfl, h'⟩ | ⟨h1', h2', h3', h4', _⟩
  · rfl
  · have := tot_mono l hm p t (r' + 1) 1099511627776 (by omega) (by omega); omega
  · have := tot_mono l hm p t (r + 1) 1099511627776 (by omega) (by omega); omega
  · by_cases a : r < r'
    · have := tot_mono l hm p t (r + 1) r' (by omega) (by omega); omega
    · by_cases b : r' < r
      · have := tot_mono l hm p t (r' + 1) r (by omega) (by omega); omega
      · omega
theorem IsWhen.back {l : List S34} (hm : Mays l) {p t e m r : Int} (ht : 0 ≤ t) (h1 : t ≤ e) (he : e ≤ 1099511627776) (h : IsWhen l p e (m - totL l p t e) r) : IsWhen l p t m r := by
  rcases h with ⟨rfl, h⟩ | ⟨a1, a2, a3, a4, a5⟩
  · have := tot_add l hm p t e 1099511627776 h1 he
    exact .inl ⟨rfl, by omega⟩
  · have b1 := tot_add l hm p t e r h1 a1
    have b2 := tot_add l hm p t e (r + 1) h1 (by omega)
    exact .inr ⟨by omega, a2, by omega, by omega, a5⟩
theorem when_here {l : List S34} (h : Plan l) {p t e m : Int} (ht : 0 ≤ t) (hm : 1 ≤ m) (he : IsEdge l p t e) (e0 : 0 ≤ e) (hx : 0 < rateL l p t) (hn : (m - 1) / rateL l p t + 1 ≤ e - t) : IsWhen l p t m (t + (m - 1) / rateL l p t) := by
  have hq := Int.ediv_nonneg (show 0 ≤ m - 1 by omega) (show 0 ≤ rateL l p t by omega)
  have hle := edge_le h.mays he
  have h1 := Int.mul_ediv_self_le (x := m - 1) (k := rateL l p t) (by omega)
  have h2 := Int.lt_mul_ediv_self_add (x := m - 1) (k := rateL l p t) hx
  have hc := edge_const he e0
  generalize hQ : (m - 1) / rateL l p t = q at *
  refine .inr ⟨by omega, by omega, ?_, ?_, ?_⟩
  · rw [tot_const l h.mays p t (t + q) (by omega) (fun c hc' hp => by have := hc c hc' hp; omega)]
    have : t + q - t = q := by omega
    rw [this]; omega
  · rw [tot_const l h.mays p t (t + q + 1) (by omega) (fun c hc' hp => by have := hc c hc' hp; omega)]
    have : t + q + 1 - t = q + 1 := by omega
    rw [this, Int.mul_add, Int.mul_one]; omega
  · rw [rate_const l p t e (t + q) (by omega) (by omega) hc]; exact hx
theorem when_loop {l : List S34} (h : Plan l) (p : Int) : ∀ (N : Nat) (t m : Int), ends l p t < N → 0 ≤ t → t ≤ 1099511627776 → 1 ≤ m → m ≤ 9223372036854775807 →
    ∃ r, Ev (fun k => plan_When.l0 k l p m t) r ∧ Ev (fun k => lanternref09_When.l0 k l p m t) r ∧ IsWhen l p t m r
  | 0, _, _, hN, _, _, _, _ => by omega
  | N + 1, t, m, hN, ht, ht', hm, hm' => by
    obtain ⟨e, he1, he⟩ := edge_ev l h.short h.mays p t ht
    obtain ⟨e', he1', he'⟩ := redge_ev l h.short h.mays p t ht
    obtain rfl := he.unique ht he'
    have r1 := rate_ev l h.short h.mays p t
    have x0 := rate_nonneg l h.mays p t
    have x1 := h.rate_low p t
    have hle := edge_le h.mays he
    by_cases e0 : e < 0
    · refine ⟨-1, Ev.step (fun k => plan_When.l0.eq_2 ..) (Ev.bind he1 (Ev.if_pos' e0 (Ev.now _))), Ev.step (fun k => lanternref09_When.l0.eq_2 ..) (Ev.bind r1 (Ev.bind he1' (Ev.if_pos' e0 (Ev.now _)))), .inl ⟨rfl, ?_⟩⟩
      have he2 : e = -1 := by rcases he with ⟨q, _⟩ | ⟨q, _⟩ <;> omega
      subst he2
      rw [no_edge_tot h.mays he ht ht']; omega
    · have hlt : t < e := by rcases he with ⟨rfl, _⟩ | ⟨q, _⟩; omega; exact q
      have hmem : ∃ c ∈ l, c.f0 = p ∧ (c.f1 = e ∨ c.f2 = e) := by rcases he with ⟨rfl, _⟩ | ⟨_, q, _⟩; omega; exact q
      have hN' : ends l p e < N := by have := ends_lt l p t e hlt hmem; omega
      have htot := tot_const l h.mays p t e (by omega) (edge_const he (by omega))
      obtain ⟨b1, b2⟩ := when_bounds (x := rateL l p t) (d := e - t) x0 x1 (by omega) (by omega)
      have ok : okWhen m t e (rateL l p t) = true := by unfold okWhen; simp; omega
      have wd : wrap64 (e - t) = e - t := w64 (by omega) (by omega)
      have wp : wrap64 (rateL l p t * (e - t)) = rateL l p t * (e - t) := w64 (by omega) (by omega)
      by_cases c : m ≤ rateL l p t * (e - t)
      · have hx : 0 < rateL l p t := by
          rcases Int.lt_or_eq_of_le x0 with q | q
          · exact q
          · rw [← q] at c; omega
        have hq := Int.ediv_nonneg (show 0 ≤ m - 1 by omega) (show 0 ≤ rateL l p t by omega)
        have hn : (m - 1) / rateL l p t + 1 ≤ e - t := by
          have : (m - 1) / rateL l p t < e - t := Int.ediv_lt_of_lt_mul hx (by rw [Int.mul_comm]; omega)
          omega
        have hw := when_here h ht hm he (by omega) hx hn
        refine ⟨_, Ev.step (fun k => plan_When.l0.eq_2 ..) (Ev.bind he1 (Ev.if_neg' e0 (Ev.bind r1 (Ev.if_pos' ok (Ev.if_pos' hx (Ev.if_pos' hn ?_)))))), Ev.step (fun k => lanternref09_When.l0.eq_2 ..) (Ev.bind r1 (Ev.bind he1' (Ev.if_neg' e0 ?_))), hw⟩
        · exact Ev.congr (fun k => congrArg some (by omega)) (Ev.now _)
        · have hd : Int.tdiv (wrap64 (m - 1)) (rateL l p t) = (m - 1) / rateL l p t := by rw [w64 (by omega) (by omega), Int.tdiv_eq_ediv_of_nonneg (by omega)]
          refine Ev.congr (fun k => ?_) (Ev.now _)
          rw [wd, wp, if_pos c, if_neg (by omega), hd, w64 (x := (m - 1) / _) (by omega) (by have := Int.ediv_le_self (b := rateL l p t) (a := m - 1) (by omega); omega), w64 (by omega) (by omega)]
      · obtain ⟨r, n1, n2, n3⟩ := when_loop h p N e (m - rateL l p t * (e - t)) hN' (by omega) hle (by omega) (by omega)
        rw [← htot] at n3
        refine ⟨r, Ev.step (fun k => plan_When.l0.eq_2 ..) (Ev.bind he1 (Ev.if_neg' e0 (Ev.bind r1 (Ev.if_pos' ok ?_)))), Ev.step (fun k => lanternref09_When.l0.eq_2 ..) (Ev.bind r1 (Ev.bind he1' (Ev.if_neg' e0 ?_))), n3.back h.mays ht (by omega) hle⟩
        · by_cases hx : 0 < rateL l p t
          · have hn : ¬ (m - 1) / rateL l p t + 1 ≤ e - t := by
              intro q
              have := Int.lt_mul_ediv_self_add (x := m - 1) (k := rateL l p t) hx
              have q2 : rateL l p t * ((m - 1) / rateL l p t + 1) ≤ rateL l p t * (e - t) := Int.mul_le_mul_of_nonneg_left q x0
              rw [Int.mul_add, Int.mul_one] at q2
              omega
            exact Ev.if_pos' hx (Ev.if_neg' hn n1)
          · have z : rateL l p t = 0 := by omega
            refine Ev.if_neg' hx ?_
            rw [z] at n1
            simpa using n1
        · refine Ev.congr (fun k => ?_) n2
          rw [wd, wp, if_neg c, w64 (by omega) (by omega)]
theorem When_plan {l : List S34} (h : Plan l) (p t m : Int) (hm' : m ≤ 9223372036854775807) : ∃ r, Ev (fun k => plan_When.f k l p t m) r ∧ Ev (fun k => lanternref09_When.f k l p t m) r ∧ (m < 1 ∧ r = clamp t ∨ 1 ≤ m ∧ IsWhen l p (clamp t) m r) := by
  have ht := clamp_range t
  by_cases c : m < 1
  · exact ⟨clamp t, Ev.bind (right_plan h).1 (Ev.if_pos' rfl (Ev.tick1 (Ev.if_pos' c (Ev.now _)))), Ev.bind (right_plan h).2 (Ev.if_pos' rfl (Ev.tick2 (Ev.if_pos' c (Ev.now _)))), .inl ⟨c, rfl⟩⟩
  · obtain ⟨r, n1, n2, n3⟩ := when_loop h p (ends l p (clamp t) + 1) (clamp t) m (by omega) ht.1 ht.2 (by omega) hm'
    exact ⟨r, Ev.bind (right_plan h).1 (Ev.if_pos' rfl (Ev.tick1 (Ev.if_neg' c n1))), Ev.bind (right_plan h).2 (Ev.if_pos' rfl (Ev.tick2 (Ev.if_neg' c n2))), .inr ⟨by omega, n3⟩⟩
end Go.Proofs.Ytogekdbbgpaelaa.PlanFuns
