/- The key law of api.Key and int as keys of maps; the order of keys, as the program's comparison answers it. -/
import Derived.Test.YtkndjjceijfdgaaPAllx
import Derived.Test.YtkndjjceijfdgaaMap
import Derived.StillTailTactics
import Derived.Lib.Small
import Derived.Shelf.SlSortCmp.NoneTotal
import Derived.Outline
import Derived.Deep.DeepMust
namespace Go.Proofs.Ytkndjjceijfdgaa.PAll
open Go.RowKit Go.Proofs.YtkndjjceijfdgaaW.PrintWords Go.Proofs.YtkndjjceijfdgaaW.PrintLast Go.Proofs.YtkndjjceijfdgaaW.PrintMore Go.Proofs.YtkndjjceijfdgaaM
set_option linter.unusedVariables false
set_option linter.unusedSimpArgs false

theorem laidOut : laidOutB Try.prog = true := by kernel_rfl
def kv (k : S36) : Value := .agg #[.int .i64 k.f0, .int .i64 k.f1.f0, .int .i64 k.f1.f1, .int .i64 k.f2, .int .i64 k.f3]
def W64 (n : Int) : Prop := (Lit.int .i64 n).wf = true
def WK (k : S36) : Prop := W64 k.f0 ∧ W64 k.f1.f0 ∧ W64 k.f1.f1 ∧ W64 k.f2 ∧ W64 k.f3
theorem law36 : Maps.Keyed Try.prog 36 := Maps.Keyed.of_law (deep_law_laid laidOut (m := 100) (by decide) (of_decide_eq_true (by kernel_rfl)) (by kernel_rfl) (by kernel_rfl))
theorem law3 : Maps.Keyed Try.prog 3 := Maps.int_keyed Try.underlying3
theorem key3 {n : Int} (h : W64 n) : keyOf Try.prog 3 (.int .i64 n) = some (.int .i64 n) := Maps.keyOf_int_mk Try.underlying3 h
theorem cells36 : Try.prog.cellsOf 36 = 5 := by kernel_rfl
theorem cells34 : Try.prog.cellsOf 34 = 2 := by kernel_rfl
theorem cells3 : Try.prog.cellsOf 3 = 1 := by kernel_rfl
theorem keyType36 : Try.prog.keyType 36 = true := by kernel_rfl
theorem types3 : ∃ d, Try.prog.types.size + 1 = d + 1 + 1 + 1 := ⟨Try.prog.types.size - 2, by have : 2 ≤ Try.prog.types.size := of_decide_eq_true (by kernel_rfl); omega⟩
theorem key36 (k : S36) (h : WK k) : ∃ l, keyOf Try.prog 36 (kv k) = some l := by
  obtain ⟨h0, h1, h2, h3, h4⟩ := h
  unfold W64 at h0 h1 h2 h3 h4
  obtain ⟨d, hd⟩ := types3
  unfold keyOf
  rw [Try.underlying36]
  simp only
  rw [hd]
  have hf : (kv k).formed Try.prog 36 = true := by simp [kv, Value.formed, Try.underlying36, cells36]
  rw [keyType36, hf]
  simp [Program.keyLits, Try.underlying36, Try.underlying34, Try.underlying3, cells36, cells34, cells3, kv, Value.cells, h0, h1, h2, h3, h4]
  rw [if_pos (by
    intro i hi
    match i, hi with
    | 0, _ => simp
    | 1, _ => simp)]
  exact ⟨_, rfl⟩
/-- cmp.Compare at int. -/
theorem compare_any (x y : Int) (w : World) : Calls Try.prog 43 #[.int .i64 x, .int .i64 y] w fun e w' => e = .returned (.int .i64 (Lib.compareInt x y)) ∧ w' = w := by
  unfold Lib.compareInt
  go_enter Try.func43, Try.ntmps43
  go_wp2
  all_goals (go_ret; refine ⟨?_, rfl⟩; (repeat' split) <;> first | rfl | (exfalso; omega))

/-! The order of keys -/
def firstOf : List Int → Int
  | [] => 0
  | x :: l => if x = 0 then firstOf l else x
def ordI (a b : S36) : Int := firstOf [Lib.compareInt a.f0 b.f0, Lib.compareInt a.f1.f0 b.f1.f0, Lib.compareInt a.f1.f1 b.f1.f1, Lib.compareInt a.f2 b.f2, Lib.compareInt a.f3 b.f3]
/-- cmp.Or at ints: the first that is not 0. -/
theorem or_any (xs : List Int) (hl : xs.length ≤ 100) (b c : Nat) (w : World) (hc : ∀ j, j < xs.length → w.cell? ⟨b, j, none⟩ = some (.int .i64 (xs.getD j 0))) :
    Calls Try.prog 42 #[.slice (some ⟨b, 0, none⟩) xs.length c] w fun e w' => e = .returned (.int .i64 (firstOf xs)) ∧ w' = w := by
  have HC := Aside0.mk hc
  clear hc
  go_enter Try.func42, Try.ntmps42
  go_wp2
  go_loop [5, 8] (fun _ i => ∃ k : Nat, k ≤ xs.length ∧ i = .int .i64 k ∧ Aside0 (firstOf xs = firstOf (xs.drop k))) (fun _ i => xs.length - (intOf i).toNat)
  case atStart => exact ⟨0, Nat.zero_le _, rfl, ⟨rfl⟩⟩
  case round =>
    obtain ⟨k, hk, rfl, HF⟩ := hrel
    by_cases h : k < xs.length
    · have hcell := HC.out k h
      obtain ⟨x, hx⟩ : ∃ x, x = xs.getD k 0 := ⟨_, rfl⟩
      have hdx : xs.drop k = x :: xs.drop (k + 1) := by rw [List.drop_eq_getElem_cons h, hx]; simp [List.getD_eq_getElem?_getD, h]
      rw [← hx] at hcell
      clear hx
      have HF2 := Aside0.mk (HF.out.trans (congrArg firstOf hdx))
      clear HF hdx
      by_cases z : x = 0
      · have z1 : (x != 0) = false := by simp [z]
        have HF3 := Aside0.mk (show firstOf xs = firstOf (xs.drop (k + 1)) by rw [HF2.out]; simp [firstOf, z])
        clear z HF2
        go_wp2
        go_round
        case rel => exact ⟨k + 1, by omega, by go_num, HF3⟩
        case measure => simp [intOf]; omega
      · have z1 : (x != 0) = true := bne_iff_ne.mpr z
        have z0 : (x == 0) = false := beq_eq_false_iff_ne.mpr z
        have HF3 := Aside0.mk (show x = firstOf xs by rw [HF2.out]; simp [firstOf, z])
        clear z HF2
        go_wp2
        go_ret
        exact ⟨congrArg (fun z => Ending.returned (.int .i64 z)) HF3.out, rfl⟩
    · obtain rfl : k = xs.length := by omega
      have HF3 := Aside0.mk (show firstOf xs = 0 by rw [HF.out, List.drop_length]; rfl)
      clear HF
      go_wp2
      go_ret
      exact ⟨congrArg (fun z => Ending.returned (.int .i64 z)) HF3.out.symm, rfl⟩

theorem or5 {W : World} {b c : Nat} {x0 x1 x2 x3 x4 : Int} (h0 : W.cell? ⟨b, 0, none⟩ = some (.int .i64 x0)) (h1 : W.cell? ⟨b, 1, none⟩ = some (.int .i64 x1)) (h2 : W.cell? ⟨b, 2, none⟩ = some (.int .i64 x2)) (h3 : W.cell? ⟨b, 3, none⟩ = some (.int .i64 x3)) (h4 : W.cell? ⟨b, 4, none⟩ = some (.int .i64 x4)) :
    Calls Try.prog 42 #[.slice (some ⟨b, 0, none⟩) 5 c] W fun e w' => e = .returned (.int .i64 (firstOf [x0, x1, x2, x3, x4])) ∧ w' = W :=
  or_any [x0, x1, x2, x3, x4] (by simp) b c W (by
    intro j hj
    match j, hj with
    | 0, _ => exact h0
    | 1, _ => exact h1
    | 2, _ => exact h2
    | 3, _ => exact h3
    | 4, _ => exact h4)
theorem compare_to {x y r : Int} (h : Lib.compareInt x y = r) {w : World} : Calls Try.prog 43 #[.int .i64 x, .int .i64 y] w fun e w' => e = .returned (.int .i64 r) ∧ w' = w := by
  subst h; exact compare_any x y w
set_option maxHeartbeats 2000000 in
set_option maxRecDepth 100000 in
theorem order_any (a b : S36) (w : World) : Calls Try.prog 31 #[kv a, kv b] w fun e w' => e = .returned (.int .i64 (ordI a b)) ∧ ∃ q os', w' = Sort.grow (w.drewN q) os' := by
  unfold kv ordI
  generalize hx0 : Lib.compareInt a.f0 b.f0 = x0
  generalize hx1 : Lib.compareInt a.f1.f0 b.f1.f0 = x1
  generalize hx2 : Lib.compareInt a.f1.f1 b.f1.f1 = x2
  generalize hx3 : Lib.compareInt a.f2 b.f2 = x3
  generalize hx4 : Lib.compareInt a.f3 b.f3 = x4
  replace hx0 := Aside0.mk hx0
  replace hx1 := Aside0.mk hx1
  replace hx2 := Aside0.mk hx2
  replace hx3 := Aside0.mk hx3
  replace hx4 := Aside0.mk hx4
  go_enter Try.func31, Try.ntmps31
  go_wp2
  refine wp_region_still_tail 29 (by kernel_rfl) (by kernel_rfl) ?_
  change wpStill _ _ (World.drew _) _ _ _
  simp only [List.take_succ_cons, List.take_zero, List.drop_succ_cons, List.drop_zero]
  repeat still_step
  still_call compare_to hx0.out
  repeat still_step
  still_call compare_to hx1.out
  repeat still_step
  still_call compare_to hx2.out
  repeat still_step
  still_call compare_to hx3.out
  repeat still_step
  still_call compare_to hx4.out
  refine wpStill_nil ?_
  go_wp2_with fail
  refine (or5 (x0 := x0) (x1 := x1) (x2 := x2) (x3 := x3) (x4 := x4) ?h0 ?h1 ?h2 ?h3 ?h4).mono ?_
  case h0 => go_simp
  case h1 => go_simp
  case h2 => go_simp
  case h3 => go_simp
  case h4 => go_simp
  rintro e w1 ⟨rfl, rfl⟩
  go_wp2
  go_ret
  refine ⟨rfl, 1, #[.cells #[.int .i64 a.f0, .int .i64 a.f1.f0, .int .i64 a.f1.f1, .int .i64 a.f2, .int .i64 a.f3] 36, .cells #[.int .i64 b.f0, .int .i64 b.f1.f0, .int .i64 b.f1.f1, .int .i64 b.f2, .int .i64 b.f3] 36, .cells #[.int .i64 x0, .int .i64 x1, .int .i64 x2, .int .i64 x3, .int .i64 x4] 3], ?_⟩
  have e : Sort.grow (w.drewN 1) #[.cells #[.int .i64 a.f0, .int .i64 a.f1.f0, .int .i64 a.f1.f1, .int .i64 a.f2, .int .i64 a.f3] 36, .cells #[.int .i64 b.f0, .int .i64 b.f1.f0, .int .i64 b.f1.f1, .int .i64 b.f2, .int .i64 b.f3] 36, .cells #[.int .i64 x0, .int .i64 x1, .int .i64 x2, .int .i64 x3, .int .i64 x4] 3] = (((w.drewN 1).alloc (.cells #[.int .i64 a.f0, .int .i64 a.f1.f0, .int .i64 a.f1.f1, .int .i64 a.f2, .int .i64 a.f3] 36)).alloc (.cells #[.int .i64 b.f0, .int .i64 b.f1.f0, .int .i64 b.f1.f1, .int .i64 b.f2, .int .i64 b.f3] 36)).alloc (.cells #[.int .i64 x0, .int .i64 x1, .int .i64 x2, .int .i64 x3, .int .i64 x4] 3) := by
    rw [Sort.alloc_eq_grow, Sort.alloc_eq_grow, Sort.alloc_eq_grow, Sort.grow_grow, Sort.grow_grow]; rfl
  rw [e]
  rfl
end Go.Proofs.Ytkndjjceijfdgaa.PAll
