/- The plain law of plans: rates, totals, edges, over lists of contacts; no program. -/
import Derived.Test.YtogekdbbgpaelaaPAllx0
namespace Go.Proofs.Ytogekdbbgpaelaa.PlanMath
open Go.Proofs.Ytogekdbbgpaelaa.PAll

def rateL : List S34 → Int → Int → Int
  | [], _, _ => 0
  | c :: l, p, t => (if c.f0 = p ∧ c.f1 ≤ t ∧ t < c.f2 then c.f3 else 0) + rateL l p t
def ov (a b f t : Int) : Int := max 0 (min b t - max a f)
def totL : List S34 → Int → Int → Int → Int
  | [], _, _, _ => 0
  | c :: l, p, a, b => (if c.f0 = p then c.f3 * ov a b c.f1 c.f2 else 0) + totL l p a b
def May (c : S34) : Prop := 1 ≤ c.f0 ∧ c.f0 ≤ 4611686018427387903 ∧ 0 ≤ c.f1 ∧ c.f1 < c.f2 ∧ c.f2 ≤ 1099511627776 ∧ 1 ≤ c.f3 ∧ c.f3 ≤ 1000
def Mays (l : List S34) : Prop := ∀ c ∈ l, May c
structure Plan (l : List S34) : Prop where
  short : l.length ≤ 100
  mays : Mays l
  low : ∀ c ∈ l, rateL l c.f0 c.f1 ≤ 1000

theorem Mays.tail {c : S34} {l : List S34} (h : Mays (c :: l)) : Mays l := fun x hx => h x (List.mem_cons_of_mem _ hx)
theorem Mays.drop {l : List S34} (h : Mays l) (n : Nat) : Mays (l.drop n) := fun x hx => h x (List.mem_of_mem_drop hx)
theorem rate_nonneg : ∀ (l : List S34) (_ : Mays l) (p t : Int), 0 ≤ rateL l p t
  | [], _, _, _ => Int.le_refl _
  | c :: l, h, p, t => by
    have h1 := rate_nonneg l h.tail p t
    have h2 := h c (List.mem_cons_self ..)
    unfold May at h2
    unfold rateL
    split <;> omega
theorem rate_le : ∀ (l : List S34) (_ : Mays l) (p t : Int), rateL l p t ≤ 1000 * l.length
  | [], _, _, _ => by simp [rateL]
  | c :: l, h, p, t => by
    have h1 := rate_le l h.tail p t
    have h2 := h c (List.mem_cons_self ..)
    unfold May at h2
    unfold rateL
    simp only [List.length_cons]
    split <;> omega
/-- Whoever is open at t is open at s: the rate at s is no lower. -/
theorem rate_mono : ∀ (l : List S34) (_ : Mays l) (p t s : Int) (_ : ∀ c ∈ l, c.f0 = p → c.f1 ≤ t → t < c.f2 → c.f1 ≤ s ∧ s < c.f2), rateL l p t ≤ rateL l p s
  | [], _, _, _, _, _ => Int.le_refl _
  | c :: l, h, p, t, s, hh => by
    have h1 := rate_mono l h.tail p t s (fun x hx => hh x (List.mem_cons_of_mem _ hx))
    have h2 := h c (List.mem_cons_self ..)
    have h3 := hh c (List.mem_cons_self ..)
    unfold May at h2
    unfold rateL
    by_cases c1 : c.f0 = p ∧ c.f1 ≤ t ∧ t < c.f2
    · rw [if_pos c1, if_pos ⟨c1.1, h3 c1.1 c1.2.1 c1.2.2⟩]; omega
    · rw [if_neg c1]; split <;> omega
/-- Of those open at t the one that opened last. -/
theorem last_open : ∀ (l : List S34) (p t : Int), (∀ c ∈ l, ¬ (c.f0 = p ∧ c.f1 ≤ t ∧ t < c.f2)) ∨ ∃ c ∈ l, (c.f0 = p ∧ c.f1 ≤ t ∧ t < c.f2) ∧ ∀ x ∈ l, (x.f0 = p ∧ x.f1 ≤ t ∧ t < x.f2) → x.f1 ≤ c.f1
  | [], _, _ => .inl (fun _ h => by cases h)
  | c :: l, p, t => by
    by_cases c1 : c.f0 = p ∧ c.f1 ≤ t ∧ t < c.f2
    · right
      rcases last_open l p t with h | ⟨d, hd, h1, h2⟩
      · refine ⟨c, List.mem_cons_self .., c1, fun x hx hp => ?_⟩
        rcases List.mem_cons.1 hx with rfl | hx
        · exact Int.le_refl _
        · exact absurd hp (h x hx)
      · by_cases c2 : d.f1 ≤ c.f1
        · refine ⟨c, List.mem_cons_self .., c1, fun x hx hp => ?_⟩
          rcases List.mem_cons.1 hx with rfl | hx
          · exact Int.le_refl _
          · exact Int.le_trans (h2 x hx hp) c2
        · refine ⟨d, List.mem_cons_of_mem _ hd, h1, fun x hx hp => ?_⟩
          rcases List.mem_cons.1 hx with rfl | hx
          · omega
          · exact h2 x hx hp
    · rcases last_open l p t with h | ⟨d, hd, h1, h2⟩
      · left
        intro x hx
        rcases List.mem_cons.1 hx with rfl | hx
        · exact c1
        · exact h x hx
      · right
        refine ⟨d, List.mem_cons_of_mem _ hd, h1, fun x hx hp => ?_⟩
        rcases List.mem_cons.1 hx with rfl | hx
        · exact absurd hp c1
        · exact h2 x hx hp
theorem rate_zero : ∀ (l : List S34) (p t : Int) (_ : ∀ c ∈ l, ¬ (c.f0 = p ∧ c.f1 ≤ t ∧ t < c.f2)), rateL l p t = 0
  | [], _, _, _ => rfl
  | c :: l, p, t, h => by
    unfold rateL
    rw [if_neg (h c (List.mem_cons_self ..)), rate_zero l p t (fun x hx => h x (List.mem_cons_of_mem _ hx))]; rfl
theorem Plan.rate_low {l : List S34} (h : Plan l) (p t : Int) : rateL l p t ≤ 1000 := by
  rcases last_open l p t with h1 | ⟨c, hc, ⟨rfl, h2, h3⟩, h4⟩
  · rw [rate_zero l p t h1]; decide
  · refine Int.le_trans (rate_mono l h.mays c.f0 t c.f1 ?_) (h.low c hc)
    intro x hx e1 e2 e3
    have := h4 x hx ⟨e1, e2, e3⟩
    omega

/-! Totals -/
theorem ov_add (a b c f t : Int) (h1 : a ≤ b) (h2 : b ≤ c) : ov a b f t + ov b c f t = ov a c f t ∨ t < f := by
  unfold ov; omega
theorem ov_nonneg (a b f t : Int) : 0 ≤ ov a b f t := by unfold ov; omega
theorem tot_nonneg : ∀ (l : List S34) (_ : Mays l) (p a b : Int), 0 ≤ totL l p a b
  | [], _, _, _, _ => Int.le_refl _
  | c :: l, h, p, a, b => by
    have h1 := tot_nonneg l h.tail p a b
    have h2 := h c (List.mem_cons_self ..)
    unfold May at h2
    unfold totL
    split
    · have := Int.mul_nonneg (show (0 : Int) ≤ c.f3 by omega) (ov_nonneg a b c.f1 c.f2); omega
    · omega
theorem tot_add : ∀ (l : List S34) (_ : Mays l) (p a b c : Int) (_ : a ≤ b) (_ : b ≤ c), totL l p a b + totL l p b c = totL l p a c
  | [], _, _, _, _, _, _, _ => rfl
  | x :: l, h, p, a, b, c, h1, h2 => by
    have ih := tot_add l h.tail p a b c h1 h2
    have hx := h x (List.mem_cons_self ..)
    unfold May at hx
    unfold totL
    split
    · have e : x.f3 * ov a b x.f1 x.f2 + x.f3 * ov b c x.f1 x.f2 = x.f3 * ov a c x.f1 x.f2 := by
        rw [← Int.mul_add]
        rcases ov_add a b c x.f1 x.f2 h1 h2 with e | e
        · rw [e]
        · omega
      omega
    · omega
/-- Where nothing opens or shuts between, the rate stays, and the total is the rate times the ticks. -/
theorem tot_const : ∀ (l : List S34) (_ : Mays l) (p a b : Int) (_ : a ≤ b) (_ : ∀ c ∈ l, c.f0 = p → (c.f1 ≤ a ∨ b ≤ c.f1) ∧ (c.f2 ≤ a ∨ b ≤ c.f2)), totL l p a b = rateL l p a * (b - a)
  | [], _, _, _, _, _, _ => by simp [totL, rateL]
  | c :: l, h, p, a, b, h1, hh => by
    have ih := tot_const l h.tail p a b h1 (fun x hx => hh x (List.mem_cons_of_mem _ hx))
    have hx := h c (List.mem_cons_self ..)
    have hc := hh c (List.mem_cons_self ..)
    unfold May at hx
    unfold totL rateL
    rw [Int.add_mul, ih]
    by_cases e : c.f0 = p
    · rw [if_pos e]
      have hc := hc e
      by_cases o : c.f1 ≤ a ∧ a < c.f2
      · rw [if_pos ⟨e, o⟩]
        have : ov a b c.f1 c.f2 = b - a := by unfold ov; omega
        rw [this]
      · rw [if_neg (fun z => o z.2)]
        have : ov a b c.f1 c.f2 = 0 := by unfold ov; omega
        rw [this]; omega
    · rw [if_neg e, if_neg (fun z => e z.1)]; omega
theorem rate_const : ∀ (l : List S34) (p a b s : Int) (_ : a ≤ s) (_ : s < b) (_ : ∀ c ∈ l, c.f0 = p → (c.f1 ≤ a ∨ b ≤ c.f1) ∧ (c.f2 ≤ a ∨ b ≤ c.f2)), rateL l p s = rateL l p a
  | [], _, _, _, _, _, _, _ => rfl
  | c :: l, p, a, b, s, h1, h2, hh => by
    have ih := rate_const l p a b s h1 h2 (fun x hx => hh x (List.mem_cons_of_mem _ hx))
    have hc := hh c (List.mem_cons_self ..)
    unfold rateL
    rw [ih]
    by_cases e : c.f0 = p
    · have hc := hc e
      by_cases o : c.f1 ≤ a ∧ a < c.f2
      · rw [if_pos ⟨e, by omega⟩, if_pos ⟨e, o⟩]
      · rw [if_neg (show ¬ (c.f0 = p ∧ c.f1 ≤ s ∧ s < c.f2) by omega), if_neg (fun z => o z.2)]
    · rw [if_neg (fun z => e z.1), if_neg (fun z => e z.1)]
/-- The total of a tick is its rate. -/
theorem tot_one (l : List S34) (h : Mays l) (p a : Int) : totL l p a (a + 1) = rateL l p a := by
  rw [tot_const l h p a (a + 1) (by omega) (fun c _ _ => by omega)]
  have : a + 1 - a = 1 := by omega
  rw [this, Int.mul_one]
theorem tot_le (l : List S34) (h : Plan l) (p a b : Int) (d : Nat) (hd : b - a = d) : totL l p a b ≤ 1000 * d := by
  induction d generalizing b with
  | zero =>
    obtain rfl : b = a := by omega
    rw [tot_const l h.mays p b b (Int.le_refl _) (fun c _ _ => by omega)]
    simp
  | succ d ih =>
    have e := tot_add l h.mays p a (b - 1) b (by omega) (by omega)
    have i1 := ih (b - 1) (by omega)
    have e2 := tot_one l h.mays p (b - 1)
    have e3 : b - 1 + 1 = b := by omega
    rw [e3] at e2
    have := h.rate_low p (b - 1)
    omega
/-- Where the rate stays, the total is the rate times the ticks. -/
theorem tot_run' (l : List S34) (h : Mays l) (p a : Int) : ∀ (d : Nat) (b : Int) (_ : b - a = d) (_ : ∀ s, a ≤ s → s < b → rateL l p s = rateL l p a), totL l p a b = rateL l p a * (b - a)
  | 0, b, hd, _ => by
    obtain rfl : b = a := by omega
    exact tot_const l h p b b (Int.le_refl _) (fun c _ _ => by omega)
  | d + 1, b, hd, hs => by
    have e := tot_add l h p a (b - 1) b (by omega) (by omega)
    have i1 := tot_run' l h p a d (b - 1) (by omega) (fun s s1 s2 => hs s s1 (by omega))
    have e2 := tot_one l h p (b - 1)
    have e3 : b - 1 + 1 = b := by omega
    rw [e3, hs (b - 1) (by omega) (by omega)] at e2
    have e4 : rateL l p a * (b - a) = rateL l p a * (b - 1 - a) + rateL l p a := by
      rw [show b - a = (b - 1 - a) + 1 by omega, Int.mul_add, Int.mul_one]
    omega
theorem tot_run (l : List S34) (h : Mays l) (p a b : Int) (hab : a ≤ b) (hs : ∀ s, a ≤ s → s < b → rateL l p s = rateL l p a) : totL l p a b = rateL l p a * (b - a) :=
  tot_run' l h p a (b - a).toNat b (by omega) hs
theorem tot_mono (l : List S34) (h : Mays l) (p a b c : Int) (h1 : a ≤ b) (h2 : b ≤ c) : totL l p a b ≤ totL l p a c := by
  have := tot_add l h p a b c h1 h2
  have := tot_nonneg l h p b c
  omega

/-! Edges -/
/-- e is the first tick behind t at which a contact of p opens or shuts; -1: none. -/
def IsEdge (l : List S34) (p t e : Int) : Prop :=
  (e = -1 ∧ ∀ c ∈ l, c.f0 = p → c.f1 ≤ t ∧ c.f2 ≤ t) ∨
  (t < e ∧ (∃ c ∈ l, c.f0 = p ∧ (c.f1 = e ∨ c.f2 = e)) ∧ ∀ c ∈ l, c.f0 = p → (c.f1 ≤ t ∨ e ≤ c.f1) ∧ (c.f2 ≤ t ∨ e ≤ c.f2))
theorem IsEdge.unique {l : List S34} {p t e e' : Int} (ht : 0 ≤ t) (h : IsEdge l p t e) (h' : IsEdge l p t e') : e = e' := by
  rcases h with ⟨rfl, h⟩ | ⟨h1, ⟨c, hc, hp, h2⟩, h3⟩ <;> rcases h' with ⟨rfl, h'⟩ | ⟨h1', ⟨c', hc', hp', h2'⟩, h3'⟩
  · rfl
  · have := h c' hc' hp'; omega
  · have := h' c hc hp; omega
  · have := h3 c' hc' hp'; have := h3' c hc hp; omega
/-- How many ends of contacts lie behind a tick. -/
def ends : List S34 → Int → Int → Nat
  | [], _, _ => 0
  | c :: l, p, t => (if c.f0 = p ∧ t < c.f1 then 1 else 0) + (if c.f0 = p ∧ t < c.f2 then 1 else 0) + ends l p t
theorem ends_le : ∀ (l : List S34) (p t e : Int) (_ : t ≤ e), ends l p e ≤ ends l p t
  | [], _, _, _, _ => Nat.le_refl _
  | c :: l, p, t, e, h => by
    have := ends_le l p t e h
    unfold ends
    have a1 : (if c.f0 = p ∧ e < c.f1 then 1 else 0) ≤ (if c.f0 = p ∧ t < c.f1 then 1 else 0) := by
      by_cases z : c.f0 = p ∧ e < c.f1
      · rw [if_pos z, if_pos ⟨z.1, by omega⟩]; exact Nat.le_refl _
      · rw [if_neg z]; exact Nat.zero_le _
    have a2 : (if c.f0 = p ∧ e < c.f2 then 1 else 0) ≤ (if c.f0 = p ∧ t < c.f2 then 1 else 0) := by
      by_cases z : c.f0 = p ∧ e < c.f2
      · rw [if_pos z, if_pos ⟨z.1, by omega⟩]; exact Nat.le_refl _
      · rw [if_neg z]; exact Nat.zero_le _
    omega
theorem ends_lt : ∀ (l : List S34) (p t e : Int) (_ : t < e) (_ : ∃ c ∈ l, c.f0 = p ∧ (c.f1 = e ∨ c.f2 = e)), ends l p e < ends l p t
  | [], _, _, _, _, ⟨_, h, _⟩ => by cases h
  | c :: l, p, t, e, h, ⟨x, hx, hp, he⟩ => by
    have b := ends_le l p t e (by omega)
    have a1 : (if c.f0 = p ∧ e < c.f1 then 1 else 0) ≤ (if c.f0 = p ∧ t < c.f1 then 1 else 0) := by
      by_cases z : c.f0 = p ∧ e < c.f1
      · rw [if_pos z, if_pos ⟨z.1, by omega⟩]; exact Nat.le_refl _
      · rw [if_neg z]; exact Nat.zero_le _
    have a2 : (if c.f0 = p ∧ e < c.f2 then 1 else 0) ≤ (if c.f0 = p ∧ t < c.f2 then 1 else 0) := by
      by_cases z : c.f0 = p ∧ e < c.f2
      · rw [if_pos z, if_pos ⟨z.1, by omega⟩]; exact Nat.le_refl _
      · rw [if_neg z]; exact Nat.zero_le _
    unfold ends
    rcases List.mem_cons.1 hx with rfl | hx
    · rcases he with rfl | rfl
      · rw [if_neg (show ¬ (x.f0 = p ∧ x.f1 < x.f1) by omega), if_pos (show x.f0 = p ∧ t < x.f1 from ⟨hp, h⟩)]; omega
      · rw [if_neg (show ¬ (x.f0 = p ∧ x.f2 < x.f2) by omega), if_pos (show x.f0 = p ∧ t < x.f2 from ⟨hp, h⟩)]; omega
    · have := ends_lt l p t e h ⟨x, hx, hp, he⟩
      omega
theorem edge_const {l : List S34} {p t e : Int} (h : IsEdge l p t e) (he : 0 ≤ e) : ∀ c ∈ l, c.f0 = p → (c.f1 ≤ t ∨ e ≤ c.f1) ∧ (c.f2 ≤ t ∨ e ≤ c.f2) := by
  rcases h with ⟨rfl, _⟩ | ⟨_, _, h⟩
  · exact absurd he (by decide)
  · exact h
theorem edge_le {l : List S34} (hm : Mays l) {p t e : Int} (h : IsEdge l p t e) : e ≤ 1099511627776 := by
  rcases h with ⟨rfl, _⟩ | ⟨_, ⟨c, hc, _, h⟩, _⟩
  · decide
  · have := hm c hc; unfold May at this; omega
theorem no_edge_rate {l : List S34} {p t s : Int} (h : IsEdge l p t (-1)) (ht : 0 ≤ t) (hs : t ≤ s) : rateL l p s = 0 := by
  refine rate_zero l p s ?_
  rcases h with ⟨_, h⟩ | ⟨h, _⟩
  · intro c hc hh; have := h c hc hh.1; omega
  · omega
theorem no_edge_tot {l : List S34} (hm : Mays l) {p t b : Int} (h : IsEdge l p t (-1)) (ht : 0 ≤ t) (hs : t ≤ b) : totL l p t b = 0 := by
  rw [tot_const l hm p t b hs, no_edge_rate h ht (Int.le_refl _)]
  · omega
  · rcases h with ⟨_, h⟩ | ⟨h, _⟩
    · intro c hc hh; have := h c hc hh; omega
    · omega
end Go.Proofs.Ytogekdbbgpaelaa.PlanMath
