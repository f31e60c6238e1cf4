/- Contracts of the timers' methods but Tick: what each call answers, what the table holds behind it, and that nothing else has changed. -/
import Derived.Test.YtkndjjceijfdgaaSort
namespace Go.Proofs.Ytkndjjceijfdgaa.PAll
open Go.RowKit Go.Proofs.YtkndjjceijfdgaaW.PrintWords Go.Proofs.YtkndjjceijfdgaaW.PrintLast Go.Proofs.YtkndjjceijfdgaaW.PrintMore Go.Proofs.YtkndjjceijfdgaaM
set_option linter.unusedVariables false
set_option linter.unusedSimpArgs false

instance : DecidableEq S36 := fun a b =>
  if h : a.f0 = b.f0 ∧ a.f1.f0 = b.f1.f0 ∧ a.f1.f1 = b.f1.f1 ∧ a.f2 = b.f2 ∧ a.f3 = b.f3 then isTrue (S36_ext h.1 h.2.1 h.2.2.1 h.2.2.2.1 h.2.2.2.2)
  else isFalse (fun e => h (by subst e; exact ⟨rfl, rfl, rfl, rfl, rfl⟩))
theorem kv_inj {a b : S36} (h : kv a = kv b) : a = b := by
  unfold kv at h
  injection h with h
  simp only [Array.mk.injEq, List.cons.injEq, Value.int.injEq, true_and, and_true] at h
  exact S36_ext h.1 h.2.1 h.2.2.1 h.2.2.2.1 h.2.2.2.2
def tp (p : S36 × Int) : Value × Value := (kv p.1, .int .i64 p.2)
def hp (n : Int) : Value × Value := (.int .i64 n, .agg #[])
/-- In block b stands a table: its timers T (in whatever order), the held peers Hd. -/
def TAt (w : World) (b bl bh : Nat) (T : List (S36 × Int)) (Hd : List Int) : Prop :=
  w.heap[b]? = some (.cells #[.map (some bl), .map (some bh)] 73 (0, 0)) ∧ MapAt Try.prog 36 w bl (T.map tp) ∧ MapAt Try.prog 3 w bh (Hd.map hp) ∧ bl ≠ bh
theorem TAt.same {w w' : World} {b bl bh : Nat} {T : List (S36 × Int)} {Hd : List Int} (h : TAt w b bl bh T Hd) (h1 : w'.heap[b]? = w.heap[b]?) (h2 : w'.heap[bl]? = w.heap[bl]?) (h3 : w'.heap[bh]? = w.heap[bh]?) : TAt w' b bl bh T Hd :=
  ⟨h1.trans h.1, h.2.1.same h2, h.2.2.1.same h3, h.2.2.2⟩
theorem TAt.lt {w : World} {b bl bh : Nat} {T : List (S36 × Int)} {Hd : List Int} (h : TAt w b bl bh T Hd) : b < w.heap.size ∧ bl < w.heap.size ∧ bh < w.heap.size :=
  ⟨(Array.getElem?_eq_some_iff.1 h.1).1, h.2.1.lt, h.2.2.1.lt⟩
theorem TAt.below {w w' : World} {b bl bh : Nat} {T : List (S36 × Int)} {Hd : List Int} (h : TAt w b bl bh T Hd) (hb : Below w.heap.size w w') : TAt w' b bl bh T Hd :=
  h.same (hb.block b h.lt.1) (hb.block bl h.lt.2.1) (hb.block bh h.lt.2.2)
theorem TAt.perm {w : World} {b bl bh : Nat} {T T' : List (S36 × Int)} {Hd : List Int} (h : TAt w b bl bh T Hd) (hp : T'.Perm T) : TAt w b bl bh T' Hd := ⟨h.1, h.2.1.perm (hp.map _), h.2.2⟩
theorem TAt.ne {w : World} {b bl bh : Nat} {T : List (S36 × Int)} {Hd : List Int} (h : TAt w b bl bh T Hd) : b ≠ bl ∧ b ≠ bh := by
  obtain ⟨h1, ⟨_, _, h2, _⟩, ⟨_, _, h3, _⟩, _⟩ := h
  constructor
  · rintro rfl; rw [h1] at h2; cases h2
  · rintro rfl; rw [h1] at h3; cases h3
theorem TAt.cells {w : World} {b bl bh : Nat} {T : List (S36 × Int)} {Hd : List Int} (h : TAt w b bl bh T Hd) : w.cell? ⟨b, 0, none⟩ = some (.map (some bl)) ∧ w.cell? ⟨b, 1, none⟩ = some (.map (some bh)) :=
  ⟨(blk_cell h.1 0).trans rfl, (blk_cell h.1 1).trans rfl⟩

/-! New -/
theorem new_any (w : World) : Calls Try.prog 9 #[] w fun e w' => ∃ b bl bh, e = .returned (.pointer (some ⟨b, 0, none⟩)) ∧ TAt w' b bl bh [] [] ∧ Below w.heap.size w w' ∧ w.heap.size ≤ b ∧ w.heap.size ≤ bl ∧ w.heap.size ≤ bh := by
  have hmm := @run_makeMap Try.prog
  go_enter Try.func9, Try.ntmps9
  go_wp2
  go_ret
  have hb : Below w.heap.size w (((w.alloc (.map #[] 0)).alloc (.map #[] 0)).alloc (.cells #[.map (some w.heap.size), .map (some (w.heap.size + 1))] 73)) := below_alloc (below_alloc (below_alloc (Below.refl _ _) _) _) _
  refine ⟨w.heap.size + 1 + 1, w.heap.size, w.heap.size + 1, rfl, ⟨?_, ?_, ?_, by omega⟩, hb, by omega, Nat.le_refl _, by omega⟩
  · simpa using heap_alloc_new ((w.alloc (.map #[] 0)).alloc (.map #[] 0)) (.cells #[.map (some w.heap.size), .map (some (w.heap.size + 1))] 73)
  · exact ((MapAt.made Try.prog 36 w).below (below_alloc (Below.refl _ _) _)).below (below_alloc (Below.refl _ _) _)
  · have := (MapAt.made Try.prog 3 (w.alloc (.map #[] 0))).below (below_alloc (Below.refl _ _) (.cells #[.map (some w.heap.size), .map (some (w.heap.size + 1))] 73))
    simpa using this

/-! may -/
def btw (n a b : Int) : Bool := decide (a ≤ n) && decide (n ≤ b)
theorem btw_any (n a b : Int) (w : World) : Calls Try.prog 41 #[.int .i64 n, .int .i64 a, .int .i64 b] w fun e w' => e = .returned (.bool (btw n a b)) ∧ w' = w := by
  unfold btw
  by_cases h1 : a ≤ n
  · by_cases h2 : n ≤ b
    · have e1 : decide (a ≤ n) = true := decide_eq_true h1
      have e2 : decide (n ≤ b) = true := decide_eq_true h2
      go_enter Try.func41, Try.ntmps41
      go_wp2
      go_ret
      exact ⟨by first | rfl | simp [*], rfl⟩
    · have e1 : decide (a ≤ n) = true := decide_eq_true h1
      have e2 : decide (n ≤ b) = false := decide_eq_false h2
      go_enter Try.func41, Try.ntmps41
      go_wp2
      go_ret
      exact ⟨by first | rfl | simp [*], rfl⟩
  · have e1 : decide (a ≤ n) = false := decide_eq_false h1
    go_enter Try.func41, Try.ntmps41
    go_wp2
    go_ret
    exact ⟨by first | rfl | simp [*], rfl⟩
def mayB (k : S36) : Bool := btw k.f0 1 4611686018427387903 && btw k.f1.f0 1 4611686018427387903 && btw k.f1.f1 1 4611686018427387902 && btw k.f2 1 4 && btw k.f3 0 4611686018427387903
set_option maxHeartbeats 4000000 in
theorem may_any (k : S36) (w : World) : Calls Try.prog 29 #[kv k] w fun e w' => e = .returned (.bool (mayB k)) ∧ Below w.heap.size w w' := by
  unfold kv mayB
  have hu := Try.underlying36
  generalize h1 : btw k.f0 1 4611686018427387903 = b1
  generalize h2 : btw k.f1.f0 1 4611686018427387903 = b2
  generalize h3 : btw k.f1.f1 1 4611686018427387902 = b3
  generalize h4 : btw k.f2 1 4 = b4
  generalize h5 : btw k.f3 0 4611686018427387903 = b5
  rcases (show b1 = false ∨ b1 = true ∧ b2 = false ∨ b1 = true ∧ b2 = true ∧ b3 = false ∨ b1 = true ∧ b2 = true ∧ b3 = true ∧ b4 = false ∨ b1 = true ∧ b2 = true ∧ b3 = true ∧ b4 = true by cases b1 <;> cases b2 <;> cases b3 <;> cases b4 <;> simp) with rfl | ⟨rfl, rfl⟩ | ⟨rfl, rfl, rfl⟩ | ⟨rfl, rfl, rfl, rfl⟩ | ⟨rfl, rfl, rfl, rfl⟩
  all_goals
    go_enter Try.func29, Try.ntmps29
    go_wp2_with (go_at_call 41; refine (btw_any _ _ _ _).mono ?_; rintro e w' ⟨rfl, rfl⟩)
    go_ret
    exact ⟨by first | rfl | simp, below_alloc (Below.refl _ _) _⟩
end Go.Proofs.Ytkndjjceijfdgaa.PAll
