/- A slice of started timers (type 25) that came in, opened: it reads as a list of keys and ticks; and its size. -/
import Derived.Test.YtkndjjceijfdgaaBase
import Derived.Deep.Slices
import Derived.Deep.Fields
import Derived.ChangeSame
import Derived.SizedLaws
namespace Go.Proofs.Ytkndjjceijfdgaa.PAll
open Go.ChangeShapes Go.WideShapes Go.Deep Go.RowKit Go.Proofs.YtkndjjceijfdgaaW.PrintWords
set_option linter.unusedVariables false
section
variable {H : Type} {enc : TypeId × Value → H} {w : World} {base : Nat} {spare : Nat → Bool} {held : Bool} {fuel : Nat} {cs : List Value} {x : DataW H × List MemPlace}
theorem tc3 : Try.prog.cellsOf 3 = 1 := by kernel_rfl
theorem tc34 : Try.prog.cellsOf 34 = 2 := by kernel_rfl
theorem tc36 : Try.prog.cellsOf 36 = 5 := by kernel_rfl
theorem tc39 : Try.prog.cellsOf 39 = 6 := by kernel_rfl
theorem bytes39 : Try.prog.bytesOf 39 = 48 := by kernel_rfl
/-- A field's reading is there. -/
theorem field_of {fs : Array Field} {t : TypeId} (ht : Try.prog.underlying t = some (.struct fs)) (h : DataW.trod enc Try.prog w base spare held fuel t cs = some x) (i : Nat) (f : Field) (hf : fs[i]? = some f) (ft fo nc : Nat) (e1 : f.type = ft) (e2 : f.offset = fo) (e3 : Try.prog.cellsOf ft = nc) :
    ∃ n y, DataW.trod enc Try.prog w base spare held n ft ((cs.drop fo).take nc) = some y := by
  subst e1 e2 e3
  obtain ⟨xs, n, _, _, _, hl, hat⟩ := DataW.trod_struct ht h
  have hi : i < xs.length := by rw [hl]; exact (Array.getElem?_eq_some_iff.1 hf).1
  exact ⟨n, _, (hat i f hf).trans (List.getElem?_eq_getElem hi)⟩
theorem int_of {n : Nat} {y : DataW H × List MemPlace} {v : Value} (h : DataW.trod enc Try.prog w base spare held n 3 [v] = some y) : ∃ a, v = .int .i64 a ∧ W64 a := by
  obtain ⟨a, e, _, hw⟩ := DataW.trod_int Try.underlying3 h
  simp only [List.cons.injEq, and_true] at e
  exact ⟨a, e, hw⟩
theorem trod34 {v0 v1 : Value} (h : DataW.trod enc Try.prog w base spare held fuel 34 [v0, v1] = some x) : ∃ s : S34, v0 = .int .i64 s.f0 ∧ v1 = .int .i64 s.f1 ∧ W64 s.f0 ∧ W64 s.f1 := by
  obtain ⟨_, _, t0⟩ := field_of Try.underlying34 h 0 _ rfl 3 0 1 rfl rfl tc3
  obtain ⟨_, _, t1⟩ := field_of Try.underlying34 h 1 _ rfl 3 1 1 rfl rfl tc3
  obtain ⟨a0, e0, w0⟩ := int_of t0
  obtain ⟨a1, e1, w1⟩ := int_of t1
  exact ⟨⟨a0, a1⟩, e0, e1, w0, w1⟩
theorem trod36 {v0 v1 v2 v3 v4 : Value} (h : DataW.trod enc Try.prog w base spare held fuel 36 [v0, v1, v2, v3, v4] = some x) :
    ∃ k : S36, [v0, v1, v2, v3, v4] = [.int .i64 k.f0, .int .i64 k.f1.f0, .int .i64 k.f1.f1, .int .i64 k.f2, .int .i64 k.f3] ∧ WK k := by
  obtain ⟨_, _, t0⟩ := field_of Try.underlying36 h 0 _ rfl 3 0 1 rfl rfl tc3
  obtain ⟨_, _, t1⟩ := field_of Try.underlying36 h 1 _ rfl 34 1 2 rfl rfl tc34
  obtain ⟨_, _, t2⟩ := field_of Try.underlying36 h 2 _ rfl 3 3 1 rfl rfl tc3
  obtain ⟨_, _, t3⟩ := field_of Try.underlying36 h 3 _ rfl 3 4 1 rfl rfl tc3
  obtain ⟨a0, rfl, w0⟩ := int_of t0
  obtain ⟨s, rfl, rfl, w1, w2⟩ := trod34 t1
  obtain ⟨a2, rfl, w3⟩ := int_of t2
  obtain ⟨a3, rfl, w4⟩ := int_of t3
  exact ⟨⟨a0, s, a2, a3⟩, rfl, w0, w1, w2, w3, w4⟩
theorem trod39 (h : DataW.trod enc Try.prog w base spare held fuel 39 cs = some x) :
    ∃ q : S85, cs = [.int .i64 q.f0.f0, .int .i64 q.f0.f1.f0, .int .i64 q.f0.f1.f1, .int .i64 q.f0.f2, .int .i64 q.f0.f3, .int .i64 q.f1] ∧ WK q.f0 ∧ W64 q.f1 := by
  obtain ⟨_, _, _, _, hl, _⟩ := DataW.trod_struct Try.underlying39 h
  rw [tc39] at hl
  rcases cs with _ | ⟨v0, _ | ⟨v1, _ | ⟨v2, _ | ⟨v3, _ | ⟨v4, _ | ⟨v5, _ | ⟨v6, r⟩⟩⟩⟩⟩⟩⟩ <;> simp only [List.length_cons, List.length_nil] at hl
  all_goals first | (exfalso; omega) | skip
  all_goals
    obtain ⟨_, _, t0⟩ := field_of Try.underlying39 h 0 _ rfl 36 0 5 rfl rfl tc36
    obtain ⟨_, _, t1⟩ := field_of Try.underlying39 h 1 _ rfl 3 5 1 rfl rfl tc3
    obtain ⟨k, e, wk⟩ := trod36 t0
    obtain ⟨a1, rfl, w1⟩ := int_of t1
    simp only [List.cons.injEq, and_true] at e
    obtain ⟨rfl, rfl, rfl, rfl, rfl⟩ := e
    exact ⟨⟨k, a1⟩, rfl, wk, w1⟩
end
/-- What the slice reads as. -/
theorem open_started {H : Type} {enc : TypeId × Value → H} {w : World} {spare : Nat → Bool} {held : Bool} {A : Option Addr} {n c : Nat} {d : DataW H} {p : List MemPlace} (h : DataW.Trod enc Try.prog w 0 spare held 25 (.slice A n c) d p) :
    ∃ l : List S85, l.length = n ∧ n ≤ c ∧ Kd.C k85 w A n l ∧ ∀ q ∈ l, WK q.f0 ∧ W64 q.f1 := by
  obtain ⟨fuel, hf⟩ := h
  rcases open_slice Try.underlying25 hf with ⟨hcs, _⟩ | ⟨a, len, cap, m, k, D, Pl, hcs, _, hl, hm, hmm, _, hi⟩
  · simp [Value.cells] at hcs
    obtain ⟨rfl, rfl, rfl⟩ := hcs
    exact ⟨[], rfl, Nat.le_refl _, ⟨rfl, by omega, fun h0 => absurd h0 (by omega)⟩, fun q hq => by cases hq⟩
  · simp [Value.cells] at hcs
    obtain ⟨rfl, rfl, rfl⟩ := hcs
    have hlen : n ≤ m := by rw [hmm]; split <;> omega
    have key : ∀ i, i < n → ∃ q : S85, (∀ j u, [Value.int .i64 q.f0.f0, .int .i64 q.f0.f1.f0, .int .i64 q.f0.f1.f1, .int .i64 q.f0.f2, .int .i64 q.f0.f3, .int .i64 q.f1][j]? = some u → w.cell? (a.add (i * 6 + j)) = some u) ∧ WK q.f0 ∧ W64 q.f1 := by
      intro i hin
      obtain ⟨cs', hc, ht⟩ := hi i (by omega)
      rw [tc39] at hc
      obtain ⟨q, rfl, wk, wn⟩ := trod39 ht
      obtain ⟨_, _, hat⟩ := World.cells?_some hc
      refine ⟨q, fun j u hu => ?_, wk, wn⟩
      have hj : j < 6 := (List.getElem?_eq_some_iff.1 hu).1
      rw [← Go.Deep.add_add, hat j hj, hu]
    haveI : Inhabited S85 := ⟨z85⟩
    obtain ⟨f, hf⟩ := choose_lt key
    refine ⟨(List.range n).map f, by simp, hl, ⟨by simp, by unfold maxLen at hm; omega, fun h0 => ⟨a, rfl, ?_⟩⟩, ?_⟩
    · intro j q hj
      have hjn : j < n := by
        have := (List.getElem?_eq_some_iff.1 hj).1
        simpa using this
      have hq : q = f j := by
        rw [List.getElem?_eq_getElem (by simpa using hjn)] at hj
        simpa using hj.symm
      subst hq
      exact ⟨_, rfl, k85_mk w (f j), (hf j hjn).1⟩
    · intro q hq
      obtain ⟨j, hj, rfl⟩ := List.mem_map.1 hq
      exact (hf j (by simpa using hj)).2
theorem sized_started {H : Type} {enc : TypeId × Value → H} {W : World} {base : Nat} {spare : Nat → Bool} {held : Bool} {a : Option Addr} {len cap : Nat} {d : DataW H} {ps : List MemPlace} {ts : List TypeId} {ds : List (DataW H)} {j : Nat}
    (hsz : (DataW.weightsEach Try.prog ts ds).all (· ≤ reachBytes) = true) (ht : ts[j]? = some 25) (hd : ds[j]? = some d)
    (h : DataW.Trod enc Try.prog W base spare held 25 (.slice a len cap) d ps) : len * 48 ≤ 140737488351232 := by
  obtain ⟨fuel, hf⟩ := h
  rcases open_slice Try.underlying25 hf with ⟨hcs, _⟩ | ⟨x, l, c, m, k, D, Pl, hcs, _, hl, hm, hmm, hx, hi⟩
  · simp [Value.cells] at hcs
    obtain ⟨rfl, rfl, rfl⟩ := hcs
    simp
  · simp [Value.cells] at hcs
    obtain ⟨rfl, rfl, rfl⟩ := hcs
    obtain ⟨hx, _⟩ := Prod.mk.inj hx
    subst hx
    have z := sized_slice hsz ht hd Try.underlying25
    rw [bytes39] at z
    simp only [List.length_map, List.length_range] at z
    have : len ≤ m := by rw [hmm]; split <;> omega
    have e : len + (m - len) = m := by omega
    rw [e] at z
    exact Nat.le_trans (Nat.mul_le_mul_right _ this) z
end Go.Proofs.Ytkndjjceijfdgaa.PAll
