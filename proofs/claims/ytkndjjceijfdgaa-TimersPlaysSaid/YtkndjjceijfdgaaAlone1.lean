/- What is picked of raw numbers; tables of small keys: how many timers there can be; two tables side by side, and each call on them. -/
import Derived.Test.YtkndjjceijfdgaaRight2
import Derived.Test.YtkndjjceijfdgaaOpen
namespace Go.Proofs.Ytkndjjceijfdgaa.PAll
open Go.RowKit Go.Proofs.YtkndjjceijfdgaaW.PrintWords Go.Proofs.YtkndjjceijfdgaaW.PrintLast Go.Proofs.YtkndjjceijfdgaaW.PrintMore Go.Proofs.YtkndjjceijfdgaaM
set_option linter.unusedVariables false
set_option linter.unusedSimpArgs false
def pickF (c n : Int) : Int := (lanternlaw10_pick.f c n).getD 0
theorem pickF_some {c n : Int} (hc : W64 c) (h1 : 1 ≤ n) (h2 : n ≤ 100) : lanternlaw10_pick.f c n = some (pickF c n) ∧ 0 ≤ pickF c n ∧ pickF c n < n := by
  obtain ⟨r, e, l, u⟩ := pick_ok c n hc h1 h2
  have : pickF c n = r := by unfold pickF; rw [e]; rfl
  rw [this]; exact ⟨e, l, u⟩
theorem pick_any (c n : Int) (hc : W64 c) (h1 : 1 ≤ n) (h2 : n ≤ 100) (w : World) : Calls Try.prog 11 #[.int .i64 c, .int .i64 n] w fun e w' => e = .returned (.int .i64 (pickF c n)) ∧ w' = w := by
  have H := (pickF_some hc h1 h2).1
  generalize pickF c n = r at H ⊢
  have c4b0 : (n == 0) = false := beq_eq_false_iff_ne.mpr (by omega)
  have c4b1 : (n != 0) = true := bne_iff_ne.mpr (by omega)
  have c4n : ¬ n = 0 := by omega
  unfold lanternlaw10_pick.f at H
  by_cases c3 : c < 0
  · rw [if_pos c3, if_neg (by omega)] at H
    have c3b0 : decide (c < 0) = true := decide_eq_true c3
    clear c3 hc h1 h2
    obtain rfl := Option.some.inj H
    go_enter Try.func11, Try.ntmps11
    go_wp2
    go_ret
    exact ⟨rfl, rfl⟩
  · rw [if_neg c3, if_neg (by omega)] at H
    have c3b0 : decide (c < 0) = false := decide_eq_false c3
    clear c3 hc h1 h2
    obtain rfl := Option.some.inj H
    go_enter Try.func11, Try.ntmps11
    go_wp2
    go_ret
    exact ⟨rfl, rfl⟩
/-- right's key. -/
def rightF (k : S36) : S36 := match lanternlaw10_right.f k.f0 k.f1.f0 k.f1.f1 k.f2 k.f3 with | some (a, b, c, d, e) => ⟨a, ⟨b, c⟩, d, e⟩ | none => z36
theorem rightF_some {k : S36} (hk : WK k) : lanternlaw10_right.f k.f0 k.f1.f0 k.f1.f1 k.f2 k.f3 = some ((rightF k).f0, (rightF k).f1.f0, (rightF k).f1.f1, (rightF k).f2, (rightF k).f3) ∧ (1 ≤ (rightF k).f0 ∧ (rightF k).f0 ≤ 3) ∧ (1 ≤ (rightF k).f1.f0 ∧ (rightF k).f1.f0 ≤ 3) ∧ (1 ≤ (rightF k).f1.f1 ∧ (rightF k).f1.f1 ≤ 3) ∧ (1 ≤ (rightF k).f2 ∧ (rightF k).f2 ≤ 4) ∧ (0 ≤ (rightF k).f3 ∧ (rightF k).f3 ≤ 3) := by
  obtain ⟨q, e, h⟩ := right_ok k hk
  have : rightF k = q := by unfold rightF; rw [e]
  rw [this]; exact ⟨e, h⟩
theorem right_any (k : S36) (hk : WK k) (w : World) : Calls Try.prog 10 #[.agg #[.int .i64 k.f0, .int .i64 k.f1.f0, .int .i64 k.f1.f1, .int .i64 k.f2, .int .i64 k.f3]] w fun e w' => e = .returned (.agg #[.int .i64 (rightF k).f0, .int .i64 (rightF k).f1.f0, .int .i64 (rightF k).f1.f1, .int .i64 (rightF k).f2, .int .i64 (rightF k).f3]) ∧ Below w.heap.size w w' :=
  lanternlaw10_right.calls _ _ _ _ _ _ _ _ _ _ w (rightF_some hk).1
theorem rightF_small {k : S36} (hk : WK k) : Small (rightF k) := by have := (rightF_some hk).2; unfold Small; omega
/-- The key of l, its session mine. -/
def mine : S34 := ⟨9, 9⟩
def mineF (k : S36) : S36 := ⟨(rightF k).f0, mine, (rightF k).f2, (rightF k).f3⟩
theorem mineF_small {k : S36} (hk : WK k) : Small (mineF k) := by have := (rightF_some hk).2; unfold Small mineF mine; dsimp only; omega
theorem mineF_is {k : S36} {n : Int} : isOf mine (mineF k, n) = true := by unfold isOf mineF mine; simp
theorem rightF_not {k : S36} (hk : WK k) {n : Int} : isOf mine (rightF k, n) = false := by have := (rightF_some hk).2; unfold isOf mine; simp; omega
/-! How many -/
theorem nodup_len {α : Type} : ∀ (l m : List α), l.Nodup → (∀ x ∈ l, x ∈ m) → l.length ≤ m.length
  | [], m, _, _ => Nat.zero_le _
  | a :: l, m, hn, hs => by
    obtain ⟨m1, hp⟩ := perm_of_mem (hs a (List.mem_cons_self ..))
    have hn' := List.nodup_cons.1 hn
    have := nodup_len l m1 hn'.2 (fun x hx => by
      have h1 := hp.mem_iff.1 (hs x (List.mem_cons_of_mem _ hx))
      rcases List.mem_cons.1 h1 with rfl | h1
      · exact absurd hx hn'.1
      · exact h1)
    rw [hp.length_eq]; simp only [List.length_cons]; omega
def code (k : S36) : Nat := (k.f0 + 10 * (k.f1.f0 + 10 * (k.f1.f1 + 10 * (k.f2 + 10 * k.f3)))).toNat
theorem code_inj {a b : S36} (ha : Small a) (hb : Small b) (h : code a = code b) : a = b := by
  unfold Small code at *
  exact S36_ext (by omega) (by omega) (by omega) (by omega) (by omega)
/-- Timers of small keys, each with ticks that may be. -/
def Sm (T : List (S36 × Int)) : Prop := ∀ p ∈ T, Small p.1 ∧ 1 ≤ p.2 ∧ p.2 ≤ 1048576
theorem Sm.good {T : List (S36 × Int)} (h : Sm T) : goodT T := fun p hp => ⟨(h p hp).1.wk, (h p hp).2⟩
theorem Sm.put {T : List (S36 × Int)} (h : Sm T) {k : S36} (hk : Small k) {n : Int} (h1 : 1 ≤ n) (h2 : n ≤ 1048576) : Sm (putT T k n) := by
  intro p hp
  rcases List.mem_cons.1 hp with rfl | hp
  · exact ⟨hk, h1, h2⟩
  · exact h p (mem_delT.1 hp).1
theorem Sm.del {T : List (S36 × Int)} (h : Sm T) (k : S36) : Sm (delT T k) := fun p hp => h p (mem_delT.1 hp).1
theorem Sm.drop {T : List (S36 × Int)} (h : Sm T) (s : S34) : Sm (dropT T s) := fun p hp => h p (List.mem_filter.1 hp).1
theorem Sm.tick {T : List (S36 × Int)} {Hd : List Int} (h : Sm T) : Sm (tickT Hd T) := by
  intro p hp
  have hg := goodT_tick (Hd := Hd) h.good p hp
  obtain ⟨q, hq, e⟩ := List.mem_filterMap.1 hp
  refine ⟨?_, hg.2⟩
  have hs := (h q hq).1
  unfold tick1 at e
  split at e
  · cases e; exact hs
  · split at e
    · cases e
    · cases e; exact hs
theorem small_len {T : List (S36 × Int)} (hn : (keysT T).Nodup) (h : Sm T) : T.length ≤ 100000 := by
  have hs : ∀ k ∈ keysT T, Small k := fun k hk => by
    obtain ⟨p, hp, rfl⟩ := List.mem_map.1 hk
    exact (h p hp).1
  have h1 : ((keysT T).map code).Nodup := by
    rw [List.nodup_iff_pairwise_ne, List.pairwise_map]
    refine List.Pairwise.imp_of_mem (R := fun a b => a ≠ b) ?_ hn
    intro a b ha hb hab e
    exact hab (code_inj (hs a ha) (hs b hb) e)
  have h2 := nodup_len _ (List.range 100000) h1 (fun x hx => by
    obtain ⟨k, hk, rfl⟩ := List.mem_map.1 hx
    have := hs k hk
    unfold Small at this
    rw [List.mem_range]; unfold code; omega)
  rw [List.length_range, List.length_map] at h2
  unfold keysT at h2
  rwa [List.length_map] at h2
/-! A slice of started timers, read -/
theorem at85 {w : World} {A : Option Addr} {n : Nat} {xs : List S85} (h : Kd.C k85 w A n xs) (k : Nat) (h1 : k < n) : ∃ ad q, A = some ad ∧ xs[k]? = some q ∧ w.cell? (ad.add (k * 6)) = some (.int .i64 q.f0.f0) ∧ w.cell? ⟨(ad.add (k * 6)).block, (ad.add (k * 6)).off + 1, none⟩ = some (.int .i64 q.f0.f1.f0) ∧ w.cell? ⟨(ad.add (k * 6)).block, (ad.add (k * 6)).off + 2, none⟩ = some (.int .i64 q.f0.f1.f1) ∧ w.cell? ⟨(ad.add (k * 6)).block, (ad.add (k * 6)).off + 3, none⟩ = some (.int .i64 q.f0.f2) ∧ w.cell? ⟨(ad.add (k * 6)).block, (ad.add (k * 6)).off + 4, none⟩ = some (.int .i64 q.f0.f3) ∧ w.cell? ⟨(ad.add (k * 6)).block, (ad.add (k * 6)).off + 5, none⟩ = some (.int .i64 q.f1) := by
  obtain ⟨ad, e, g⟩ := at_T85 h (k : Int) (by omega) (by omega)
  rw [Int.toNat_natCast] at g
  have hl := h.1
  refine ⟨ad, rd_T85 xs k, e, ?_, g⟩
  unfold rd_T85
  rw [Int.toNat_natCast, List.getD_eq_getElem?_getD, List.getElem?_eq_getElem (by omega)]; rfl
end Go.Proofs.Ytkndjjceijfdgaa.PAll
