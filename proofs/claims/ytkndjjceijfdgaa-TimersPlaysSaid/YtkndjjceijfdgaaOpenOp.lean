/- A slice of steps (type 55) that came in, opened: it reads as a list of steps; and its size. -/
import Derived.Test.YtkndjjceijfdgaaOpen
import Derived.ChangeArms
namespace Go.Proofs.Ytkndjjceijfdgaa.PAll
open Go.ChangeShapes Go.WideShapes Go.Deep Go.RowKit Go.Proofs.YtkndjjceijfdgaaW.PrintWords
set_option linter.unusedVariables false
structure OpV where
  kind : Int
  two : Bool
  k : S36
  n : Int
instance : Inhabited OpV := ⟨⟨0, false, z36, 0⟩⟩
def encO (q : OpV) : List Value := [.int .i64 q.kind, .bool q.two, .int .i64 q.k.f0, .int .i64 q.k.f1.f0, .int .i64 q.k.f1.f1, .int .i64 q.k.f2, .int .i64 q.k.f3, .int .i64 q.n]
def OpsAt (w : World) (A : Option Addr) (l : List OpV) : Prop := ∀ i q, l[i]? = some q → ∃ a, A = some a ∧ ∀ j u, (encO q)[j]? = some u → w.cell? (a.add (i * 8 + j)) = some u
def OkOp (q : OpV) : Prop := W64 q.kind ∧ WK q.k ∧ W64 q.n
section
variable {H : Type} {enc : TypeId × Value → H} {w : World} {base : Nat} {spare : Nat → Bool} {held : Bool} {fuel : Nat} {cs : List Value} {x : DataW H × List MemPlace}
theorem tc4 : Try.prog.cellsOf 4 = 1 := by kernel_rfl
theorem tc66 : Try.prog.cellsOf 66 = 8 := by kernel_rfl
theorem bytes66 : Try.prog.bytesOf 66 = 64 := by kernel_rfl
theorem trod66 (h : DataW.trod enc Try.prog w base spare held fuel 66 cs = some x) : ∃ q : OpV, cs = encO q ∧ OkOp q := by
  obtain ⟨_, _, _, _, hl, _⟩ := DataW.trod_struct Try.underlying66 h
  rw [tc66] at hl
  rcases cs with _ | ⟨v0, _ | ⟨v1, _ | ⟨v2, _ | ⟨v3, _ | ⟨v4, _ | ⟨v5, _ | ⟨v6, _ | ⟨v7, _ | ⟨v8, r⟩⟩⟩⟩⟩⟩⟩⟩⟩ <;> simp only [List.length_cons, List.length_nil] at hl
  all_goals first | (exfalso; omega) | skip
  all_goals
    obtain ⟨_, _, t0⟩ := field_of Try.underlying66 h 0 _ rfl 3 0 1 rfl rfl tc3
    obtain ⟨_, _, t1⟩ := field_of Try.underlying66 h 1 _ rfl 4 1 1 rfl rfl tc4
    obtain ⟨_, _, t2⟩ := field_of Try.underlying66 h 2 _ rfl 36 2 5 rfl rfl tc36
    obtain ⟨_, _, t3⟩ := field_of Try.underlying66 h 3 _ rfl 3 7 1 rfl rfl tc3
    obtain ⟨a0, rfl, w0⟩ := int_of t0
    obtain ⟨b1, e1, _⟩ := DataW.trod_bool Try.underlying4 t1
    obtain ⟨k, e, wk⟩ := trod36 t2
    obtain ⟨a3, rfl, w3⟩ := int_of t3
    simp only [List.cons.injEq, and_true] at e
    obtain ⟨rfl, rfl, rfl, rfl, rfl⟩ := e
    have e1' : v1 = .bool b1 := by simpa using e1
    subst e1'
    exact ⟨⟨a0, b1, k, a3⟩, rfl, w0, wk, w3⟩
end
theorem open_ops {H : Type} {enc : TypeId × Value → H} {w : World} {spare : Nat → Bool} {held : Bool} {A : Option Addr} {n c : Nat} {d : DataW H} {p : List MemPlace} (h : DataW.Trod enc Try.prog w 0 spare held 55 (.slice A n c) d p) :
    ∃ l : List OpV, l.length = n ∧ n ≤ c ∧ OpsAt w A l ∧ ∀ q ∈ l, OkOp q := by
  obtain ⟨fuel, hf⟩ := h
  rcases open_slice Try.underlying55 hf with ⟨hcs, _⟩ | ⟨a, len, cap, m, k, D, Pl, hcs, _, hl, hm, hmm, _, hi⟩
  · simp [Value.cells] at hcs
    obtain ⟨rfl, rfl, rfl⟩ := hcs
    exact ⟨[], rfl, Nat.le_refl _, fun i q hq => by simp at hq, fun q hq => by cases hq⟩
  · simp [Value.cells] at hcs
    obtain ⟨rfl, rfl, rfl⟩ := hcs
    have hlen : n ≤ m := by rw [hmm]; split <;> omega
    have key : ∀ i, i < n → ∃ q : OpV, (∀ j u, (encO q)[j]? = some u → w.cell? (a.add (i * 8 + j)) = some u) ∧ OkOp q := by
      intro i hin
      obtain ⟨cs', hc, ht⟩ := hi i (by omega)
      rw [tc66] at hc
      obtain ⟨q, rfl, hq⟩ := trod66 ht
      obtain ⟨_, _, hat⟩ := World.cells?_some hc
      refine ⟨q, fun j u hu => ?_, hq⟩
      have hj : j < 8 := (List.getElem?_eq_some_iff.1 hu).1
      rw [← Go.Deep.add_add, hat j hj, hu]
    obtain ⟨f, hf⟩ := choose_lt key
    refine ⟨(List.range n).map f, by simp, hl, ?_, ?_⟩
    · intro j q hj
      have hjn : j < n := by
        have := (List.getElem?_eq_some_iff.1 hj).1
        simpa using this
      have hq : q = f j := by
        rw [List.getElem?_eq_getElem (by simpa using hjn)] at hj
        simpa using hj.symm
      subst hq
      exact ⟨a, rfl, (hf j hjn).1⟩
    · intro q hq
      obtain ⟨j, hj, rfl⟩ := List.mem_map.1 hq
      exact (hf j (by simpa using hj)).2
theorem sized_ops {H : Type} {enc : TypeId × Value → H} {W : World} {base : Nat} {spare : Nat → Bool} {held : Bool} {a : Option Addr} {len cap : Nat} {d : DataW H} {ps : List MemPlace} {ts : List TypeId} {ds : List (DataW H)} {j : Nat}
    (hsz : (DataW.weightsEach Try.prog ts ds).all (· ≤ reachBytes) = true) (ht : ts[j]? = some 55) (hd : ds[j]? = some d)
    (h : DataW.Trod enc Try.prog W base spare held 55 (.slice a len cap) d ps) : len * 64 ≤ 140737488351232 := by
  obtain ⟨fuel, hf⟩ := h
  rcases open_slice Try.underlying55 hf with ⟨hcs, _⟩ | ⟨x, l, c, m, k, D, Pl, hcs, _, hl, hm, hmm, hx, hi⟩
  · simp [Value.cells] at hcs
    obtain ⟨rfl, rfl, rfl⟩ := hcs
    simp
  · simp [Value.cells] at hcs
    obtain ⟨rfl, rfl, rfl⟩ := hcs
    obtain ⟨hx, _⟩ := Prod.mk.inj hx
    subst hx
    have z := sized_slice hsz ht hd Try.underlying55
    rw [bytes66] at z
    simp only [List.length_map, List.length_range] at z
    have : len ≤ m := by rw [hmm]; split <;> omega
    have e : len + (m - len) = m := by omega
    rw [e] at z
    exact Nat.le_trans (Nat.mul_le_mul_right _ this) z
theorem op_cells {w wi : World} {A : Option Addr} {l : List OpV} {i : Nat} {q : OpV} (h : OpsAt w A l) (hq : l[i]? = some q) (hb : Below w.heap.size w wi) : ∃ ad, A = some ad ∧ wi.cell? (ad.add (i * 8)) = some (.int .i64 q.kind) ∧ wi.cell? ⟨(ad.add (i * 8)).block, (ad.add (i * 8)).off + 1, none⟩ = some (.bool q.two) ∧ wi.cell? ⟨(ad.add (i * 8)).block, (ad.add (i * 8)).off + 2, none⟩ = some (.int .i64 q.k.f0) ∧ wi.cell? ⟨(ad.add (i * 8)).block, (ad.add (i * 8)).off + 3, none⟩ = some (.int .i64 q.k.f1.f0) ∧ wi.cell? ⟨(ad.add (i * 8)).block, (ad.add (i * 8)).off + 4, none⟩ = some (.int .i64 q.k.f1.f1) ∧ wi.cell? ⟨(ad.add (i * 8)).block, (ad.add (i * 8)).off + 5, none⟩ = some (.int .i64 q.k.f2) ∧ wi.cell? ⟨(ad.add (i * 8)).block, (ad.add (i * 8)).off + 6, none⟩ = some (.int .i64 q.k.f3) ∧ wi.cell? ⟨(ad.add (i * 8)).block, (ad.add (i * 8)).off + 7, none⟩ = some (.int .i64 q.n) := by
  obtain ⟨a, e, hc0⟩ := h i q hq
  have hc : ∀ j u, (encO q)[j]? = some u → wi.cell? (a.add (i * 8 + j)) = some u := fun j u hu => (hb.cell (World.block_lt_of_cell? w _ (hc0 j u hu))).trans (hc0 j u hu)
  exact ⟨a, e, hc 0 _ rfl, by rw [← add_field _ _ 1 (by omega)]; exact hc 1 _ rfl, by rw [← add_field _ _ 2 (by omega)]; exact hc 2 _ rfl, by rw [← add_field _ _ 3 (by omega)]; exact hc 3 _ rfl, by rw [← add_field _ _ 4 (by omega)]; exact hc 4 _ rfl, by rw [← add_field _ _ 5 (by omega)]; exact hc 5 _ rfl, by rw [← add_field _ _ 6 (by omega)]; exact hc 6 _ rfl, by rw [← add_field _ _ 7 (by omega)]; exact hc 7 _ rfl⟩
end Go.Proofs.Ytkndjjceijfdgaa.PAll
