/- What the printed functions of plans come to, in the plain law's words. -/
import Derived.Test.YtogekdbbgpaelaaPlanMath
import Derived.Test.YtogekdbbgpaelaaPAllx
namespace Go.Proofs.Ytogekdbbgpaelaa.PlanFuns
open Go.RowKit Go.Proofs.Ytogekdbbgpaelaa.PAll Go.Proofs.Ytogekdbbgpaelaa.PlanMath Go.Proofs.YtogekdbbgpaelaaW.PrintWords Go.Proofs.YtogekdbbgpaelaaW.PrintLast Go.Proofs.YtogekdbbgpaelaaW.PrintMore
set_option linter.unusedVariables false
set_option linter.unusedSimpArgs false

theorem w64 {x : Int} (h1 : -9223372036854775808 ≤ x) (h2 : x ≤ 9223372036854775807) : wrap64 x = x := by unfold wrap64; omega
theorem w64n {i : Nat} (h : i ≤ 140737488355328) : wrap64 ((i : Int) + 1) = ((i + 1 : Nat) : Int) := by unfold wrap64; omega
theorem rd_at {l : List S34} {i : Nat} (h : i < l.length) : rd_T34 l (i : Int) = l[i] := by
  unfold rd_T34; simp [List.getD_eq_getElem?_getD, h]
theorem drop_at {l : List S34} {i : Nat} (h : i < l.length) : l.drop i = l[i] :: l.drop (i + 1) := List.drop_eq_getElem_cons h
theorem take_at {l : List S34} {i : Nat} (h : i < l.length) : l.take (i + 1) = l.take i ++ [l[i]] := by rw [List.take_add_one]; simp [h]

/-! rate -/
theorem rate_loop (l : List S34) (hl : l.length ≤ 100) (hm : Mays l) (p t : Int) : ∀ (d i : Nat) (acc : Int), i + d = l.length → 0 ≤ acc → acc ≤ 1000 * i →
    Ev (fun k => lanternref09_rate.l0 k l p t acc (i : Int)) (acc + rateL (l.drop i) p t)
  | 0, i, acc, hd, h0, h1 => by
    refine Ev.step (f := fun _ => some (acc + rateL (l.drop i) p t)) (fun k => ?_) (Ev.now _)
    simp only [lanternref09_rate.l0]
    rw [if_neg (by omega), List.drop_eq_nil_of_le (by omega)]
    simp [rateL]
  | d + 1, i, acc, hd, h0, h1 => by
    have hi : i < l.length := by omega
    have hc := hm l[i] (List.getElem_mem hi)
    unfold May at hc
    have e0 := rd_at hi
    rw [drop_at hi]
    by_cases c : l[i].f0 = p ∧ l[i].f1 ≤ t ∧ t < l[i].f2
    · have ih := rate_loop l hl hm p t d (i + 1) (acc + l[i].f3) (by omega) (by omega) (by omega)
      refine Ev.step (f := fun k => lanternref09_rate.l0 k l p t (acc + l[i].f3) ((i + 1 : Nat) : Int)) (fun k => ?_) ?_
      · simp only [lanternref09_rate.l0]
        rw [if_pos (by omega), if_pos (by omega), e0, if_pos c.1, if_pos c.2.1, if_pos c.2.2, w64 (by omega) (by omega), w64n (by omega)]
      · have : acc + l[i].f3 + rateL (l.drop (i + 1)) p t = acc + rateL (l[i] :: l.drop (i + 1)) p t := by
          rw [rateL, if_pos c]; omega
        rw [← this]; exact ih
    · have ih := rate_loop l hl hm p t d (i + 1) acc (by omega) (by omega) (by omega)
      refine Ev.step (f := fun k => lanternref09_rate.l0 k l p t acc ((i + 1 : Nat) : Int)) (fun k => ?_) ?_
      · simp only [lanternref09_rate.l0]
        rw [if_pos (by omega), if_pos (by omega), e0, w64n (by omega)]
        by_cases c1 : l[i].f0 = p
        · rw [if_pos c1]
          by_cases c2 : l[i].f1 ≤ t
          · rw [if_pos c2, if_neg (fun c3 => c ⟨c1, c2, c3⟩)]
          · rw [if_neg c2]
        · rw [if_neg c1]
      · have : acc + rateL (l.drop (i + 1)) p t = acc + rateL (l[i] :: l.drop (i + 1)) p t := by
          rw [rateL, if_neg c]; omega
        rw [← this]; exact ih
theorem rate_ev (l : List S34) (hl : l.length ≤ 100) (hm : Mays l) (p t : Int) : Ev (fun k => lanternref09_rate.f k l p t) (rateL l p t) := by
  have := rate_loop l hl hm p t l.length 0 0 (by omega) (by omega) (by omega)
  simpa [lanternref09_rate.f] using this

/-! may -/
theorem may_ev (c : S34) : lanternref09_May.f c.f0 c.f1 c.f2 c.f3 = some true ∧ May c ∨ lanternref09_May.f c.f0 c.f1 c.f2 c.f3 = some false ∧ ¬ May c := by
  unfold lanternref09_May.f May
  repeat' split
  all_goals first
    | (right; exact ⟨rfl, by omega⟩)
    | (by_cases h : c.f3 ≤ 1000
       · left; exact ⟨by rw [decide_eq_true h], by omega⟩
       · right; exact ⟨by rw [decide_eq_false h], by omega⟩)

/-! Right -/
theorem right_loop1 (l : List S34) (hl : l.length ≤ 100) (hm : Mays l) : ∀ (d i : Nat), i + d = l.length → (∀ c ∈ l.take i, rateL l c.f0 c.f1 ≤ 1000) →
    ∃ e, Ev (fun k => lanternref09_Right.l1 k l (i : Int)) e ∧ (e = 0 ∧ Plan l ∨ e ≠ 0 ∧ ¬ Plan l)
  | 0, i, hd, h => by
    refine ⟨0, Ev.step (f := fun _ => some 0) (fun k => ?_) (Ev.now _), .inl ⟨rfl, hl, hm, ?_⟩⟩
    · simp only [lanternref09_Right.l1]; rw [if_neg (by omega)]
    · intro c hc; exact h c (by rw [List.take_of_length_le (by omega)]; exact hc)
  | d + 1, i, hd, h => by
    have hi : i < l.length := by omega
    have e0 := rd_at hi
    have hr := rate_ev l hl hm l[i].f0 l[i].f1
    by_cases c : rateL l l[i].f0 l[i].f1 > 1000
    · refine ⟨90, Ev.step (f := fun k => (lanternref09_rate.f k l l[i].f0 l[i].f1).bind fun t133 => if t133 > 1000 then some 90 else lanternref09_Right.l1 k l (wrap64 ((i : Int) + 1))) (fun k => ?_) (Ev.bind hr ?_), .inr ⟨by decide, fun h => by have := h.low _ (List.getElem_mem hi); omega⟩⟩
      · simp only [lanternref09_Right.l1]; rw [if_pos (by omega), if_pos (by omega), e0]
      · exact Ev.congr (fun k => by rw [if_pos c]) (Ev.now 90)
    · obtain ⟨e, he, hh⟩ := right_loop1 l hl hm d (i + 1) (by omega) (by
        rw [take_at hi]; intro x hx
        rcases List.mem_append.1 hx with hx | hx
        · exact h x hx
        · obtain rfl := List.mem_singleton.1 hx; omega)
      refine ⟨e, Ev.step (f := fun k => (lanternref09_rate.f k l l[i].f0 l[i].f1).bind fun t133 => if t133 > 1000 then some 90 else lanternref09_Right.l1 k l (wrap64 ((i : Int) + 1))) (fun k => ?_) (Ev.bind hr ?_), hh⟩
      · simp only [lanternref09_Right.l1]; rw [if_pos (by omega), if_pos (by omega), e0]
      · exact Ev.congr (fun k => by rw [if_neg c, w64n (by omega)]) he
theorem right_loop0 (l : List S34) (hl : l.length ≤ 100) : ∀ (d i : Nat), i + d = l.length → (∀ c ∈ l.take i, May c) →
    ∃ e, Ev (fun k => lanternref09_Right.l0 k l (i : Int)) e ∧ (e = 0 ∧ Plan l ∨ e ≠ 0 ∧ ¬ Plan l)
  | 0, i, hd, h => by
    obtain ⟨e, he, hh⟩ := right_loop1 l hl (fun c hc => h c (by rw [List.take_of_length_le (by omega)]; exact hc)) l.length 0 (by omega) (by simp)
    refine ⟨e, Ev.step (fun k => ?_) he, hh⟩
    simp only [lanternref09_Right.l0]; rw [if_neg (by omega)]; rfl
  | d + 1, i, hd, h => by
    have hi : i < l.length := by omega
    have e0 := rd_at hi
    rcases may_ev l[i] with ⟨e1, hc⟩ | ⟨e1, hc⟩
    · obtain ⟨e, he, hh⟩ := right_loop0 l hl d (i + 1) (by omega) (by
        rw [take_at hi]; intro x hx
        rcases List.mem_append.1 hx with hx | hx
        · exact h x hx
        · obtain rfl := List.mem_singleton.1 hx; exact hc)
      refine ⟨e, Ev.step (fun k => ?_) he, hh⟩
      simp only [lanternref09_Right.l0]; rw [if_pos (by omega), if_pos (by omega), e0, e1]; simp only [Option.bind_some, if_true]; rw [w64n (by omega)]
    · refine ⟨90, Ev.step (f := fun _ => some 90) (fun k => ?_) (Ev.now _), .inr ⟨by decide, fun h => hc (h.mays _ (List.getElem_mem hi))⟩⟩
      simp only [lanternref09_Right.l0]; rw [if_pos (by omega), if_pos (by omega), e0, e1]; simp
theorem right_ev (l : List S34) : ∃ e, Ev (fun k => plan_Right.f k l) e ∧ Ev (fun k => lanternref09_Right.f k l) e ∧ (e = 0 ∧ Plan l ∨ e ≠ 0 ∧ ¬ Plan l) := by
  by_cases hl : (l.length : Int) > 100
  · have : Ev (fun k => lanternref09_Right.f k l) 2 := Ev.congr (fun k => by unfold lanternref09_Right.f; rw [if_pos hl]) (Ev.now 2)
    exact ⟨2, this, this, .inr ⟨by decide, fun h => by have := h.short; omega⟩⟩
  · obtain ⟨e, he, hh⟩ := right_loop0 l (by omega) l.length 0 (by omega) (by simp)
    have : Ev (fun k => lanternref09_Right.f k l) e := Ev.congr (fun k => by unfold lanternref09_Right.f; rw [if_neg hl]; rfl) he
    exact ⟨e, this, this, hh⟩
theorem right_plan {l : List S34} (h : Plan l) : Ev (fun k => plan_Right.f k l) 0 ∧ Ev (fun k => lanternref09_Right.f k l) 0 := by
  obtain ⟨e, h1, h2, ⟨rfl, _⟩ | ⟨_, hn⟩⟩ := right_ev l
  · exact ⟨h1, h2⟩
  · exact absurd h hn

/-! tick -/
def clamp (n : Int) : Int := min (max n 0) 1099511627776
theorem mnmx (n : Int) : mn (mx n 0) 1099511627776 = clamp n := by unfold mn mx clamp; split <;> split <;> omega
theorem clamp_range (n : Int) : 0 ≤ clamp n ∧ clamp n ≤ 1099511627776 := by unfold clamp; omega
theorem clamp_id {n : Int} (h : 0 ≤ n) (h' : n ≤ 1099511627776) : clamp n = n := by unfold clamp; omega
theorem tick1 (n : Int) : plan_tick.f n = some (clamp n) := by rw [← mnmx]; rfl
theorem tick2 (n : Int) : lanternref09_tick.f n = some (clamp n) := by rw [← mnmx]; rfl
theorem tick3 (n : Int) : lanternlaw09_tick.f n = some (clamp n) := by rw [← mnmx]; rfl

/-! edge -/
/-- One end of a contact is looked at. -/
def look (t x v : Int) : Int := if t < v then (if x < 0 then v else if v < x then v else x) else x
theorem edge_snoc {l : List S34} {p t x : Int} (ht : 0 ≤ t) (h : IsEdge l p t x) (c : S34) (hc : c.f1 < c.f2) : IsEdge (l ++ [c]) p t (if c.f0 = p then look t (look t x c.f1) c.f2 else x) := by
  have ap : ∀ {P : S34 → Prop}, (∀ y ∈ l, P y) → P c → ∀ y ∈ l ++ [c], P y := by
    intro P h1 h2 y hy
    rcases List.mem_append.1 hy with hy | hy
    · exact h1 y hy
    · rw [List.mem_singleton.1 hy]; exact h2
  have ml : ∀ {y}, y ∈ l → y ∈ l ++ [c] := fun hy => List.mem_append.2 (.inl hy)
  have mc : c ∈ l ++ [c] := List.mem_append.2 (.inr (List.mem_singleton.2 rfl))
  by_cases e : c.f0 = p
  · rw [if_pos e]
    rcases h with ⟨rfl, h⟩ | ⟨h1, ⟨y, hy, hp, h2⟩, h3⟩
    · by_cases a : t < c.f1
      · rw [show look t (-1) c.f1 = c.f1 by unfold look; rw [if_pos a, if_pos (by omega)]]
        rw [show look t c.f1 c.f2 = c.f1 by unfold look; rw [if_pos (by omega), if_neg (by omega), if_neg (by omega)]]
        exact .inr ⟨a, ⟨c, mc, e, .inl rfl⟩, ap (fun y hy hyp => by have := h y hy hyp; omega) (fun _ => by omega)⟩
      · rw [show look t (-1) c.f1 = -1 by unfold look; rw [if_neg a]]
        by_cases b : t < c.f2
        · rw [show look t (-1) c.f2 = c.f2 by unfold look; rw [if_pos b, if_pos (by omega)]]
          exact .inr ⟨b, ⟨c, mc, e, .inr rfl⟩, ap (fun y hy hyp => by have := h y hy hyp; omega) (fun _ => by omega)⟩
        · rw [show look t (-1) c.f2 = -1 by unfold look; rw [if_neg b]]
          exact .inl ⟨rfl, ap h (fun _ => by omega)⟩
    · by_cases a : t < c.f1 ∧ c.f1 < x
      · rw [show look t x c.f1 = c.f1 by unfold look; rw [if_pos a.1, if_neg (by omega), if_pos a.2]]
        rw [show look t c.f1 c.f2 = c.f1 by unfold look; rw [if_pos (by omega), if_neg (by omega), if_neg (by omega)]]
        exact .inr ⟨a.1, ⟨c, mc, e, .inl rfl⟩, ap (fun y hy hyp => by have := h3 y hy hyp; omega) (fun _ => by omega)⟩
      · rw [show look t x c.f1 = x by
          unfold look
          by_cases a1 : t < c.f1
          · rw [if_pos a1, if_neg (by omega), if_neg (by omega)]
          · rw [if_neg a1]]
        by_cases b : t < c.f2 ∧ c.f2 < x
        · rw [show look t x c.f2 = c.f2 by unfold look; rw [if_pos b.1, if_neg (by omega), if_pos b.2]]
          exact .inr ⟨b.1, ⟨c, mc, e, .inr rfl⟩, ap (fun y hy hyp => by have := h3 y hy hyp; omega) (fun _ => by omega)⟩
        · rw [show look t x c.f2 = x by
            unfold look
            by_cases a1 : t < c.f2
            · rw [if_pos a1, if_neg (by omega), if_neg (by omega)]
            · rw [if_neg a1]]
          exact .inr ⟨h1, ⟨y, ml hy, hp, h2⟩, ap h3 (fun _ => by omega)⟩
  · rw [if_neg e]
    rcases h with ⟨rfl, h⟩ | ⟨h1, ⟨y, hy, hp, h2⟩, h3⟩
    · exact .inl ⟨rfl, ap h (fun z => absurd z e)⟩
    · exact .inr ⟨h1, ⟨y, ml hy, hp, h2⟩, ap h3 (fun z => absurd z e)⟩
theorem rd_two (a b : Int) : rd [a, b] 0 = a ∧ rd [a, b] 1 = b := ⟨rfl, rfl⟩
theorem edge_l1_0 (l : List S34) (p t x n i13 : Int) {i : Nat} (hi : i < l.length) (k : Nat) : plan_edge.l1 (k + 1) l p t x (i : Int) n i13 0 = plan_edge.l1 k l p t (look t x l[i].f1) (i : Int) n i13 1 := by
  simp only [plan_edge.l1]
  rw [if_pos (by decide), if_pos (by omega), if_pos (by omega), rd_at hi]
  simp only [Option.bind_some, List.length_cons, List.length_nil]
  rw [if_pos (by decide), if_pos (by decide), (rd_two _ _).1]
  have : wrap64 (0 + 1) = 1 := by unfold wrap64; omega
  rw [this]
  unfold look
  by_cases a : t < l[i].f1
  · rw [if_pos a, if_pos a]
    by_cases b : x < 0
    · rw [if_pos b, if_pos b]
    · rw [if_neg b, if_neg b]
      by_cases c : l[i].f1 < x
      · rw [if_pos c, if_pos c]
      · rw [if_neg c, if_neg c]
  · rw [if_neg a, if_neg a]
theorem edge_l1_1 (l : List S34) (p t x n i13 : Int) {i : Nat} (hi : i < l.length) (k : Nat) : plan_edge.l1 (k + 1) l p t x (i : Int) n i13 1 = plan_edge.l1 k l p t (look t x l[i].f2) (i : Int) n i13 2 := by
  simp only [plan_edge.l1]
  rw [if_pos (by decide), if_pos (by omega), if_pos (by omega), rd_at hi]
  simp only [Option.bind_some, List.length_cons, List.length_nil]
  rw [if_pos (by decide), if_pos (by decide), (rd_two _ _).2]
  have : wrap64 (1 + 1) = 2 := by unfold wrap64; omega
  rw [this]
  unfold look
  by_cases a : t < l[i].f2
  · rw [if_pos a, if_pos a]
    by_cases b : x < 0
    · rw [if_pos b, if_pos b]
    · rw [if_neg b, if_neg b]
      by_cases c : l[i].f2 < x
      · rw [if_pos c, if_pos c]
      · rw [if_neg c, if_neg c]
  · rw [if_neg a, if_neg a]
theorem edge_loop (l : List S34) (hl : l.length ≤ 100) (hm : Mays l) (p t : Int) (ht : 0 ≤ t) : ∀ (d i : Nat) (x : Int), i + d = l.length → IsEdge (l.take i) p t x →
    ∃ e, Ev (fun k => plan_edge.l0 k l p t x (l.length : Int) (i : Int)) e ∧ IsEdge l p t e
  | 0, i, x, hd, h => by
    refine ⟨x, Ev.step (f := fun _ => some x) (fun k => ?_) (Ev.now _), ?_⟩
    · simp only [plan_edge.l0]; rw [if_neg (by omega)]
    · rw [List.take_of_length_le (by omega)] at h; exact h
  | d + 1, i, x, hd, h => by
    have hi : i < l.length := by omega
    have hc := hm l[i] (List.getElem_mem hi)
    unfold May at hc
    have h' := edge_snoc ht h l[i] (by omega)
    rw [← take_at hi] at h'
    obtain ⟨e, he, hh⟩ := edge_loop l hl hm p t ht d (i + 1) _ (by omega) h'
    refine ⟨e, ?_, hh⟩
    by_cases c : l[i].f0 = p
    · rw [if_pos c] at he
      refine Ev.step (f := fun k => plan_edge.l1 k l p t x (i : Int) (l.length : Int) (i : Int) 0) (fun k => ?_) ?_
      · simp only [plan_edge.l0]; rw [if_pos (by omega), if_pos (by omega), if_pos (by omega), rd_at hi, if_pos c]
      refine Ev.step (fun k => edge_l1_0 l p t x _ _ hi k) ?_
      refine Ev.step (fun k => edge_l1_1 l p t _ _ _ hi k) ?_
      refine Ev.step (fun k => ?_) he
      simp only [plan_edge.l1]; rw [if_neg (by decide), w64n (by omega)]
    · rw [if_neg c] at he
      refine Ev.step (fun k => ?_) he
      simp only [plan_edge.l0]; rw [if_pos (by omega), if_pos (by omega), if_pos (by omega), rd_at hi, if_neg c, w64n (by omega)]
theorem edge_ev (l : List S34) (hl : l.length ≤ 100) (hm : Mays l) (p t : Int) (ht : 0 ≤ t) : ∃ e, Ev (fun k => plan_edge.f k l p t) e ∧ IsEdge l p t e :=
  edge_loop l hl hm p t ht l.length 0 (-1) (by omega) (.inl ⟨rfl, by simp⟩)
theorem redge_step (l : List S34) (p t x : Int) {i : Nat} (hi : i < l.length) (hn : l.length ≤ 100) (h1 : 0 ≤ l[i].f1) (c : l[i].f0 = p) (k : Nat) :
    lanternref09_edge.l0 (k + 1 + 1) l p t x (i : Int) = lanternref09_edge.l0 k l p t (look t (look t x l[i].f1) l[i].f2) ((i + 1 : Nat) : Int) := by
  simp only [lanternref09_edge.l0]
  rw [if_pos (by omega), if_pos (by omega), rd_at hi, if_pos c]
  have go : ∀ b : Bool, lanternref09_edge.j1 (k + 1) l p t x (i : Int) b = lanternref09_edge.l0 k l p t (look t (if b = true then l[i].f1 else x) l[i].f2) ((i + 1 : Nat) : Int) := by
    intro b
    simp only [lanternref09_edge.j1]
    cases b
    · simp only [Bool.false_eq_true, if_false]
      rw [if_pos (show (0 : Int) ≤ (i : Int) by omega), if_pos (show (i : Int) < (l.length : Int) by omega), rd_at hi, w64n (by omega)]
      unfold look
      by_cases a : t < l[i].f2
      · rw [if_pos a, if_pos a]
        by_cases b : x < 0
        · rw [if_pos b, if_pos b]
        · rw [if_neg b, if_neg b]
          by_cases c : l[i].f2 < x
          · rw [if_pos c, if_pos c]
          · rw [if_neg c, if_neg c]
      · rw [if_neg a, if_neg a]
    · simp only [if_true]
      rw [if_pos (show (0 : Int) ≤ (i : Int) by omega), if_pos (show (i : Int) < (l.length : Int) by omega), rd_at hi, w64n (by omega)]
      unfold look
      by_cases a : t < l[i].f2
      · rw [if_pos a, if_pos a]
        have b : ¬ l[i].f1 < 0 := by omega
        rw [if_neg b, if_neg b]
        by_cases c : l[i].f2 < l[i].f1
        · rw [if_pos c, if_pos c]
        · rw [if_neg c, if_neg c]
      · rw [if_neg a, if_neg a]
  rw [go, go, go]
  by_cases a : t < l[i].f1
  · rw [if_pos a]
    by_cases b : x < 0
    · rw [if_pos b, if_pos rfl, show look t x l[i].f1 = l[i].f1 by unfold look; rw [if_pos a, if_pos b]]
    · rw [if_neg b]
      by_cases c : l[i].f1 < x
      · rw [if_pos (decide_eq_true c), show look t x l[i].f1 = l[i].f1 by unfold look; rw [if_pos a, if_neg b, if_pos c]]
      · rw [if_neg (by simpa using c), show look t x l[i].f1 = x by unfold look; rw [if_pos a, if_neg b, if_neg c]]
  · rw [if_neg a, if_neg (by decide), show look t x l[i].f1 = x by unfold look; rw [if_neg a]]
theorem Ev.step2 {α : Type} {g f : Nat → Option α} {r : α} (h : ∀ k, g (k + 1 + 1) = f k) (k : Ev f r) : Ev g r := by
  obtain ⟨K, k⟩ := k
  refine ⟨K + 2, fun n hn => ?_⟩
  obtain ⟨m, rfl⟩ : ∃ m, n = m + 1 + 1 := ⟨n - 2, by omega⟩
  rw [h]; exact k m (by omega)
theorem redge_loop (l : List S34) (hl : l.length ≤ 100) (hm : Mays l) (p t : Int) (ht : 0 ≤ t) : ∀ (d i : Nat) (x : Int), i + d = l.length → IsEdge (l.take i) p t x →
    ∃ e, Ev (fun k => lanternref09_edge.l0 k l p t x (i : Int)) e ∧ IsEdge l p t e
  | 0, i, x, hd, h => by
    refine ⟨x, Ev.step (f := fun _ => some x) (fun k => ?_) (Ev.now _), ?_⟩
    · simp only [lanternref09_edge.l0]; rw [if_neg (by omega)]
    · rw [List.take_of_length_le (by omega)] at h; exact h
  | d + 1, i, x, hd, h => by
    have hi : i < l.length := by omega
    have hc := hm l[i] (List.getElem_mem hi)
    unfold May at hc
    have h' := edge_snoc ht h l[i] (by omega)
    rw [← take_at hi] at h'
    obtain ⟨e, he, hh⟩ := redge_loop l hl hm p t ht d (i + 1) _ (by omega) h'
    refine ⟨e, ?_, hh⟩
    by_cases c : l[i].f0 = p
    · rw [if_pos c] at he
      exact Ev.step2 (fun k => redge_step l p t x hi hl (by omega) c k) he
    · rw [if_neg c] at he
      refine Ev.step (fun k => ?_) he
      simp only [lanternref09_edge.l0]; rw [if_pos (by omega), if_pos (by omega), rd_at hi, if_neg c, w64n (by omega)]
theorem redge_ev (l : List S34) (hl : l.length ≤ 100) (hm : Mays l) (p t : Int) (ht : 0 ≤ t) : ∃ e, Ev (fun k => lanternref09_edge.f k l p t) e ∧ IsEdge l p t e :=
  redge_loop l hl hm p t ht l.length 0 (-1) (by omega) (.inl ⟨rfl, by simp⟩)
end Go.Proofs.Ytogekdbbgpaelaa.PlanFuns
