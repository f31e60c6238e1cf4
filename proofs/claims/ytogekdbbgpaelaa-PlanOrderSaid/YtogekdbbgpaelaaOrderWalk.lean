/- Contracts of functions of the program: what each call answers, and that nothing that was there has changed; written by a program of the session over the printer, or by hand; no condition beside those in each statement. -/
import Derived.Test.YtogekdbbgpaelaaPAllx
namespace Go.Proofs.Ytogekdbbgpaelaa.PAll
open Go.RowKit Go.Proofs.YtogekdbbgpaelaaW.PrintWords Go.Proofs.YtogekdbbgpaelaaW.PrintLast Go.Proofs.YtogekdbbgpaelaaW.PrintMore
attribute [local go_sem] max2_int min2_int max_two min_two max_three min_three max_four min_four   -- for this text's walks alone
set_option linter.unusedVariables false
set_option linter.unusedSimpArgs false

/-! ### lanternlaw09_PlanOrder: function 6 -/
mutual
def lanternlaw09_PlanOrder.j0 : Nat → List (S34) → List Int → Int → Int → Int → Int → Bool → Int → Int → Bool → Option (Bool)
  | 0, _, _, _, _, _, _, _, _, _, _ => none
  | k + 1, x0, x1, x2, x3, x4, x5, x13, x14, x15, x57 => if x57 = true then (if x13 = true then (some (x14 == x15)) else (some false)) else (if ([] : List (S34)).length + x0.length < 4398046511104 then ((some (([] : List (S34)) ++ x0 : List (S34))).bind fun y134 => (if 0 < (y134.length : Int) then (if x2 ≥ 0 then (if (wrap64 (((rd_T34 y134 0).f2) - ((rd_T34 y134 0).f1))) = 0 then (none) else (lanternlaw09_PlanOrder.j1 k x0 x1 x3 x4 x5 y134 (wrap64 ((wrap64 (((rd_T34 y134 0).f1) + 1)) + (Int.tmod x2 (wrap64 (((rd_T34 y134 0).f2) - ((rd_T34 y134 0).f1)))))) ((rd_T34 y134 0).f0) ((rd_T34 y134 0).f1) ((rd_T34 y134 0).f2) ((rd_T34 y134 0).f3))) else (lanternlaw09_PlanOrder.j1 k x0 x1 x3 x4 x5 y134 (wrap64 (((rd_T34 y134 0).f1) + 1)) ((rd_T34 y134 0).f0) ((rd_T34 y134 0).f1) ((rd_T34 y134 0).f2) ((rd_T34 y134 0).f3))) else (none))) else (none))
def lanternlaw09_PlanOrder.j1 : Nat → List (S34) → List Int → Int → Int → Int → List (S34) → Int → Int → Int → Int → Int → Option (Bool)
  | 0, _, _, _, _, _, _, _, _, _, _, _ => none
  | k + 1, x0, x1, x3, x4, x5, x16, x18, x139000, x139001, x139002, x139003 => if x18 < x139002 then (if 0 < (x16.length : Int) then ((some (x16.set (0 : Int).toNat (⟨(rd_T34 x16 0).f0, (rd_T34 x16 0).f1, x18, (rd_T34 x16 0).f3⟩ : S34) : List (S34))).bind fun y139 => (if y139.length < 4398046511104 then (lanternlaw09_PlanOrder.j2 k x0 x1 x3 x4 x5 (y139 ++ [(⟨x139000, x18, x139002, x139003⟩ : S34)])) else (none))) else (none)) else (lanternlaw09_PlanOrder.j2 k x0 x1 x3 x4 x5 x16)
def lanternlaw09_PlanOrder.j2 : Nat → List (S34) → List Int → Int → Int → Int → List (S34) → Option (Bool)
  | 0, _, _, _, _, _, _ => none
  | k + 1, x0, x1, x3, x4, x5, x16 => lanternlaw09_PlanOrder.l0 k x0 x1 x3 x4 x5 x16 ([] : List (S34)) 0
def lanternlaw09_PlanOrder.l0 : Nat → List (S34) → List Int → Int → Int → Int → List (S34) → List (S34) → Int → Option (Bool)
  | 0, _, _, _, _, _, _, _, _ => none
  | k + 1, x0, x1, x3, x4, x5, x16, x19, x20 => if (x16.length : Int) > 0 then (if x20 < (x1.length : Int) then (if 0 ≤ x20 then (if (rd x1 x20) ≥ 0 then (if (x16.length : Int) = 0 then (none) else (if 0 ≤ (Int.tmod (rd x1 x20) (x16.length : Int)) then (if (Int.tmod (rd x1 x20) (x16.length : Int)) < (x16.length : Int) then (if x19.length < 4398046511104 then (if (Int.tmod (rd x1 x20) (x16.length : Int)) ≤ (x16.length : Int) then ((some (x16.take ((Int.tmod (rd x1 x20) (x16.length : Int)) : Int).toNat : List (S34))).bind fun y149 => (if ([] : List (S34)).length + y149.length < 4398046511104 then ((some (([] : List (S34)) ++ y149 : List (S34))).bind fun y153 => (if 0 ≤ (wrap64 ((Int.tmod (rd x1 x20) (x16.length : Int)) + 1)) then (if (wrap64 ((Int.tmod (rd x1 x20) (x16.length : Int)) + 1)) ≤ (x16.length : Int) then ((some (x16.drop ((wrap64 ((Int.tmod (rd x1 x20) (x16.length : Int)) + 1)) : Int).toNat : List (S34))).bind fun y156 => (if y153.length + y156.length < 4398046511104 then (lanternlaw09_PlanOrder.l0 k x0 x1 x3 x4 x5 (y153 ++ y156) (x19 ++ [(⟨(rd_T34 x16 (Int.tmod (rd x1 x20) (x16.length : Int))).f0, (rd_T34 x16 (Int.tmod (rd x1 x20) (x16.length : Int))).f1, (rd_T34 x16 (Int.tmod (rd x1 x20) (x16.length : Int))).f2, (rd_T34 x16 (Int.tmod (rd x1 x20) (x16.length : Int))).f3⟩ : S34)]) (wrap64 (x20 + 1))) else (none))) else (none)) else (none))) else (none))) else (none)) else (none)) else (none)) else (none))) else (if 0 < (x16.length : Int) then (if x19.length < 4398046511104 then (if 0 ≤ (x16.length : Int) then ((some (x16.take 0 : List (S34))).bind fun y167 => (if ([] : List (S34)).length + y167.length < 4398046511104 then ((some (([] : List (S34)) ++ y167 : List (S34))).bind fun y171 => (if 0 ≤ ((0 : Int) + 1) then (if (0 + 1) ≤ (x16.length : Int) then ((some (x16.drop ((0 + 1) : Int).toNat : List (S34))).bind fun y174 => (if y171.length + y174.length < 4398046511104 then (lanternlaw09_PlanOrder.l0 k x0 x1 x3 x4 x5 (y171 ++ y174) (x19 ++ [(⟨(rd_T34 x16 0).f0, (rd_T34 x16 0).f1, (rd_T34 x16 0).f2, (rd_T34 x16 0).f3⟩ : S34)]) (wrap64 (x20 + 1))) else (none))) else (none)) else (none))) else (none))) else (none)) else (none)) else (none))) else (none)) else (if 0 < (x16.length : Int) then (if x19.length < 4398046511104 then (if 0 ≤ (x16.length : Int) then ((some (x16.take 0 : List (S34))).bind fun y185 => (if ([] : List (S34)).length + y185.length < 4398046511104 then ((some (([] : List (S34)) ++ y185 : List (S34))).bind fun y189 => (if 0 ≤ ((0 : Int) + 1) then (if (0 + 1) ≤ (x16.length : Int) then ((some (x16.drop ((0 + 1) : Int).toNat : List (S34))).bind fun y192 => (if y189.length + y192.length < 4398046511104 then (lanternlaw09_PlanOrder.l0 k x0 x1 x3 x4 x5 (y189 ++ y192) (x19 ++ [(⟨(rd_T34 x16 0).f0, (rd_T34 x16 0).f1, (rd_T34 x16 0).f2, (rd_T34 x16 0).f3⟩ : S34)]) (wrap64 (x20 + 1))) else (none))) else (none)) else (none))) else (none))) else (none)) else (none)) else (none))) else ((plan_Right.f k x19).bind fun t199 => ((plan_Rate.f k x0 x3 x4).bind fun t200 => ((plan_Rate.f k x19 x3 x4).bind fun t201 => ((plan_Next.f k x0 x3 x4).bind fun t202 => ((plan_Next.f k x19 x3 x4).bind fun t203 => ((plan_Total.f k x0 x3 0 x4).bind fun t204 => ((plan_Total.f k x19 x3 0 x4).bind fun t205 => ((plan_When.f k x0 x3 x4 x5).bind fun t206 => ((plan_When.f k x19 x3 x4 x5).bind fun t207 => (if t199 = 0 then (if t200 = t201 then (if t202 = t203 then (if t204 = t205 then (some (t206 == t207)) else (some false)) else (some false)) else (some false)) else (some false)))))))))))
end
def lanternlaw09_PlanOrder.f (k : Nat) (l0 : List (S34)) (l1 : List Int) (a2 : Int) (a3 : Int) (a4 : Int) (a5 : Int) : Option (Bool) := (lanternlaw09_awake.f k).bind fun t131 => ((plan_Right.f k l0).bind fun t132 => ((lanternref09_Right.f k l0).bind fun t133 => (if t131 = true then (if t132 = t133 then (if t132 = 0 then (if (l0.length : Int) = 0 then (lanternlaw09_PlanOrder.j0 k l0 l1 a2 a3 a4 a5 t131 t132 t133 true) else (lanternlaw09_PlanOrder.j0 k l0 l1 a2 a3 a4 a5 t131 t132 t133 (decide ((l0.length : Int) ≥ 100)))) else (lanternlaw09_PlanOrder.j0 k l0 l1 a2 a3 a4 a5 t131 t132 t133 true)) else (lanternlaw09_PlanOrder.j0 k l0 l1 a2 a3 a4 a5 t131 t132 t133 true)) else (lanternlaw09_PlanOrder.j0 k l0 l1 a2 a3 a4 a5 t131 t132 t133 true))))
theorem lanternlaw09_PlanOrder.mono_l : ∀ k, (∀ y0 y1 y2 y3 y4 y5 y6 y7 y8 y9, LeO (lanternlaw09_PlanOrder.j0 k y0 y1 y2 y3 y4 y5 y6 y7 y8 y9) (lanternlaw09_PlanOrder.j0 (k + 1) y0 y1 y2 y3 y4 y5 y6 y7 y8 y9)) ∧ (∀ y0 y1 y2 y3 y4 y5 y6 y7 y8 y9 y10, LeO (lanternlaw09_PlanOrder.j1 k y0 y1 y2 y3 y4 y5 y6 y7 y8 y9 y10) (lanternlaw09_PlanOrder.j1 (k + 1) y0 y1 y2 y3 y4 y5 y6 y7 y8 y9 y10)) ∧ (∀ y0 y1 y2 y3 y4 y5, LeO (lanternlaw09_PlanOrder.j2 k y0 y1 y2 y3 y4 y5) (lanternlaw09_PlanOrder.j2 (k + 1) y0 y1 y2 y3 y4 y5)) ∧ (∀ y0 y1 y2 y3 y4 y5 y6 y7, LeO (lanternlaw09_PlanOrder.l0 k y0 y1 y2 y3 y4 y5 y6 y7) (lanternlaw09_PlanOrder.l0 (k + 1) y0 y1 y2 y3 y4 y5 y6 y7))
  | 0 => ⟨fun _ _ _ _ _ _ _ _ _ _ r h => by simp [lanternlaw09_PlanOrder.j0] at h, fun _ _ _ _ _ _ _ _ _ _ _ r h => by simp [lanternlaw09_PlanOrder.j1] at h, fun _ _ _ _ _ _ r h => by simp [lanternlaw09_PlanOrder.j2] at h, fun _ _ _ _ _ _ _ _ r h => by simp [lanternlaw09_PlanOrder.l0] at h⟩
  | k + 1 => by
    obtain ⟨ih0, ih1, ih2, ih3⟩ := lanternlaw09_PlanOrder.mono_l k
    refine ⟨?_, ?_, ?_, ?_⟩
    · intro y0 y1 y2 y3 y4 y5 y6 y7 y8 y9
      unfold lanternlaw09_PlanOrder.j0
      repeat' first
      | (with_reducible exact ih0 _ _ _ _ _ _ _ _ _ _)
      | (with_reducible exact ih1 _ _ _ _ _ _ _ _ _ _ _)
      | (with_reducible exact ih2 _ _ _ _ _ _)
      | (with_reducible exact ih3 _ _ _ _ _ _ _ _)
      | (with_reducible exact lanternlaw09_awake.mono _)
      | (with_reducible exact lanternref09_Right.mono _ _)
      | (with_reducible exact plan_Next.mono _ _ _ _)
      | (with_reducible exact plan_Rate.mono _ _ _ _)
      | (with_reducible exact plan_Right.mono _ _)
      | (with_reducible exact plan_Total.mono _ _ _ _ _)
      | (with_reducible exact plan_When.mono _ _ _ _ _)
      | (with_reducible exact LeO.refl _)
      | (with_reducible exact LeO.none _)
      | (with_reducible refine LeO.ite ?_ ?_)
      | (with_reducible refine LeO.bind ?_ (fun _ => ?_))
      | exact ih0 _ _ _ _ _ _ _ _ _ _
      | exact ih1 _ _ _ _ _ _ _ _ _ _ _
      | exact ih2 _ _ _ _ _ _
      | exact ih3 _ _ _ _ _ _ _ _
      | exact lanternlaw09_awake.mono _
      | exact lanternref09_Right.mono _ _
      | exact plan_Next.mono _ _ _ _
      | exact plan_Rate.mono _ _ _ _
      | exact plan_Right.mono _ _
      | exact plan_Total.mono _ _ _ _ _
      | exact plan_When.mono _ _ _ _ _
      | exact LeO.none _
      | refine LeO.ite ?_ ?_
      | refine LeO.bind ?_ (fun _ => ?_)
    · intro y0 y1 y2 y3 y4 y5 y6 y7 y8 y9 y10
      unfold lanternlaw09_PlanOrder.j1
      repeat' first
      | (with_reducible exact ih0 _ _ _ _ _ _ _ _ _ _)
      | (with_reducible exact ih1 _ _ _ _ _ _ _ _ _ _ _)
      | (with_reducible exact ih2 _ _ _ _ _ _)
      | (with_reducible exact ih3 _ _ _ _ _ _ _ _)
      | (with_reducible exact lanternlaw09_awake.mono _)
      | (with_reducible exact lanternref09_Right.mono _ _)
      | (with_reducible exact plan_Next.mono _ _ _ _)
      | (with_reducible exact plan_Rate.mono _ _ _ _)
      | (with_reducible exact plan_Right.mono _ _)
      | (with_reducible exact plan_Total.mono _ _ _ _ _)
      | (with_reducible exact plan_When.mono _ _ _ _ _)
      | (with_reducible exact LeO.refl _)
      | (with_reducible exact LeO.none _)
      | (with_reducible refine LeO.ite ?_ ?_)
      | (with_reducible refine LeO.bind ?_ (fun _ => ?_))
      | exact ih0 _ _ _ _ _ _ _ _ _ _
      | exact ih1 _ _ _ _ _ _ _ _ _ _ _
      | exact ih2 _ _ _ _ _ _
      | exact ih3 _ _ _ _ _ _ _ _
      | exact lanternlaw09_awake.mono _
      | exact lanternref09_Right.mono _ _
      | exact plan_Next.mono _ _ _ _
      | exact plan_Rate.mono _ _ _ _
      | exact plan_Right.mono _ _
      | exact plan_Total.mono _ _ _ _ _
      | exact plan_When.mono _ _ _ _ _
      | exact LeO.none _
      | refine LeO.ite ?_ ?_
      | refine LeO.bind ?_ (fun _ => ?_)
    · intro y0 y1 y2 y3 y4 y5
      unfold lanternlaw09_PlanOrder.j2
      repeat' first
      | (with_reducible exact ih0 _ _ _ _ _ _ _ _ _ _)
      | (with_reducible exact ih1 _ _ _ _ _ _ _ _ _ _ _)
      | (with_reducible exact ih2 _ _ _ _ _ _)
      | (with_reducible exact ih3 _ _ _ _ _ _ _ _)
      | (with_reducible exact lanternlaw09_awake.mono _)
      | (with_reducible exact lanternref09_Right.mono _ _)
      | (with_reducible exact plan_Next.mono _ _ _ _)
      | (with_reducible exact plan_Rate.mono _ _ _ _)
      | (with_reducible exact plan_Right.mono _ _)
      | (with_reducible exact plan_Total.mono _ _ _ _ _)
      | (with_reducible exact plan_When.mono _ _ _ _ _)
      | (with_reducible exact LeO.refl _)
      | (with_reducible exact LeO.none _)
      | (with_reducible refine LeO.ite ?_ ?_)
      | (with_reducible refine LeO.bind ?_ (fun _ => ?_))
      | exact ih0 _ _ _ _ _ _ _ _ _ _
      | exact ih1 _ _ _ _ _ _ _ _ _ _ _
      | exact ih2 _ _ _ _ _ _
      | exact ih3 _ _ _ _ _ _ _ _
      | exact lanternlaw09_awake.mono _
      | exact lanternref09_Right.mono _ _
      | exact plan_Next.mono _ _ _ _
      | exact plan_Rate.mono _ _ _ _
      | exact plan_Right.mono _ _
      | exact plan_Total.mono _ _ _ _ _
      | exact plan_When.mono _ _ _ _ _
      | exact LeO.none _
      | refine LeO.ite ?_ ?_
      | refine LeO.bind ?_ (fun _ => ?_)
    · intro y0 y1 y2 y3 y4 y5 y6 y7
      unfold lanternlaw09_PlanOrder.l0
      repeat' first
      | (with_reducible exact ih0 _ _ _ _ _ _ _ _ _ _)
      | (with_reducible exact ih1 _ _ _ _ _ _ _ _ _ _ _)
      | (with_reducible exact ih2 _ _ _ _ _ _)
      | (with_reducible exact ih3 _ _ _ _ _ _ _ _)
      | (with_reducible exact lanternlaw09_awake.mono _)
      | (with_reducible exact lanternref09_Right.mono _ _)
      | (with_reducible exact plan_Next.mono _ _ _ _)
      | (with_reducible exact plan_Rate.mono _ _ _ _)
      | (with_reducible exact plan_Right.mono _ _)
      | (with_reducible exact plan_Total.mono _ _ _ _ _)
      | (with_reducible exact plan_When.mono _ _ _ _ _)
      | (with_reducible exact LeO.refl _)
      | (with_reducible exact LeO.none _)
      | (with_reducible refine LeO.ite ?_ ?_)
      | (with_reducible refine LeO.bind ?_ (fun _ => ?_))
      | exact ih0 _ _ _ _ _ _ _ _ _ _
      | exact ih1 _ _ _ _ _ _ _ _ _ _ _
      | exact ih2 _ _ _ _ _ _
      | exact ih3 _ _ _ _ _ _ _ _
      | exact lanternlaw09_awake.mono _
      | exact lanternref09_Right.mono _ _
      | exact plan_Next.mono _ _ _ _
      | exact plan_Rate.mono _ _ _ _
      | exact plan_Right.mono _ _
      | exact plan_Total.mono _ _ _ _ _
      | exact plan_When.mono _ _ _ _ _
      | exact LeO.none _
      | refine LeO.ite ?_ ?_
      | refine LeO.bind ?_ (fun _ => ?_)
theorem lanternlaw09_PlanOrder.mono : ∀ a0 a1 a2 a3 a4 a5 k, LeO (lanternlaw09_PlanOrder.f k a0 a1 a2 a3 a4 a5) (lanternlaw09_PlanOrder.f (k + 1) a0 a1 a2 a3 a4 a5) := by
  intro a0 a1 a2 a3 a4 a5 k
  obtain ⟨ih0, ih1, ih2, ih3⟩ := lanternlaw09_PlanOrder.mono_l k
  unfold lanternlaw09_PlanOrder.f
  repeat' first
      | (with_reducible exact ih0 _ _ _ _ _ _ _ _ _ _)
      | (with_reducible exact ih1 _ _ _ _ _ _ _ _ _ _ _)
      | (with_reducible exact ih2 _ _ _ _ _ _)
      | (with_reducible exact ih3 _ _ _ _ _ _ _ _)
      | (with_reducible exact lanternlaw09_awake.mono _)
      | (with_reducible exact lanternref09_Right.mono _ _)
      | (with_reducible exact plan_Next.mono _ _ _ _)
      | (with_reducible exact plan_Rate.mono _ _ _ _)
      | (with_reducible exact plan_Right.mono _ _)
      | (with_reducible exact plan_Total.mono _ _ _ _ _)
      | (with_reducible exact plan_When.mono _ _ _ _ _)
      | (with_reducible exact LeO.refl _)
      | (with_reducible exact LeO.none _)
      | (with_reducible refine LeO.ite ?_ ?_)
      | (with_reducible refine LeO.bind ?_ (fun _ => ?_))
      | exact ih0 _ _ _ _ _ _ _ _ _ _
      | exact ih1 _ _ _ _ _ _ _ _ _ _ _
      | exact ih2 _ _ _ _ _ _
      | exact ih3 _ _ _ _ _ _ _ _
      | exact lanternlaw09_awake.mono _
      | exact lanternref09_Right.mono _ _
      | exact plan_Next.mono _ _ _ _
      | exact plan_Rate.mono _ _ _ _
      | exact plan_Right.mono _ _
      | exact plan_Total.mono _ _ _ _ _
      | exact plan_When.mono _ _ _ _ _
      | exact LeO.none _
      | refine LeO.ite ?_ ?_
      | refine LeO.bind ?_ (fun _ => ?_)
set_option maxHeartbeats 8000000 in
set_option maxRecDepth 100000 in
theorem lanternlaw09_PlanOrder.calls (k : Nat) (A0 : Option Addr) (c0 : Nat) (l0 : List (S34)) (A1 : Option Addr) (c1 : Nat) (l1 : List Int) (a2 : Int) (a3 : Int) (a4 : Int) (a5 : Int) (r : Bool) (w : World) (hr0 : Kd.C k34 w A0 l0.length l0) (hc0 : l0.length ≤ c0) (hr1 : Kd.C (Kd.int .i64) w A1 l1.length l1) (hc1 : l1.length ≤ c1) (h : lanternlaw09_PlanOrder.f k l0 l1 a2 a3 a4 a5 = some r) :
    Calls Try.prog 6 #[.slice A0 l0.length c0, .slice A1 l1.length c1, .int .i64 a2, .int .i64 a3, .int .i64 a4, .int .i64 a5] w fun e w' => e = .returned (.bool r) ∧ Below w.heap.size w w' := by
  have hu34 := Try.underlying34
  have HR0 := Aside0.mk hr0
  have HC0 := Aside0.mk hc0
  clear hr0 hc0
  have HR1 := Aside0.mk hr1
  have HC1 := Aside0.mk hc1
  clear hr1 hc1
  have HB := Aside0.mk (Below.refl w.heap.size w)
  have H : ((lanternlaw09_awake.f k).bind fun t131 => ((plan_Right.f k l0).bind fun t132 => ((lanternref09_Right.f k l0).bind fun t133 => (if t131 = true then (if t132 = t133 then (if t132 = 0 then (if (l0.length : Int) = 0 then (lanternlaw09_PlanOrder.j0 k l0 l1 a2 a3 a4 a5 t131 t132 t133 true) else (lanternlaw09_PlanOrder.j0 k l0 l1 a2 a3 a4 a5 t131 t132 t133 (decide ((l0.length : Int) ≥ 100)))) else (lanternlaw09_PlanOrder.j0 k l0 l1 a2 a3 a4 a5 t131 t132 t133 true)) else (lanternlaw09_PlanOrder.j0 k l0 l1 a2 a3 a4 a5 t131 t132 t133 true)) else (lanternlaw09_PlanOrder.j0 k l0 l1 a2 a3 a4 a5 t131 t132 t133 true))))) = some r := h
  clear h
  replace H := Option.bind_eq_some_iff.mp H
  obtain ⟨t131, A70, H⟩ := H
  replace H : ((plan_Right.f k l0).bind fun t132 => ((lanternref09_Right.f k l0).bind fun t133 => (if t131 = true then (if t132 = t133 then (if t132 = 0 then (if (l0.length : Int) = 0 then (lanternlaw09_PlanOrder.j0 k l0 l1 a2 a3 a4 a5 t131 t132 t133 true) else (lanternlaw09_PlanOrder.j0 k l0 l1 a2 a3 a4 a5 t131 t132 t133 (decide ((l0.length : Int) ≥ 100)))) else (lanternlaw09_PlanOrder.j0 k l0 l1 a2 a3 a4 a5 t131 t132 t133 true)) else (lanternlaw09_PlanOrder.j0 k l0 l1 a2 a3 a4 a5 t131 t132 t133 true)) else (lanternlaw09_PlanOrder.j0 k l0 l1 a2 a3 a4 a5 t131 t132 t133 true)))) = some r := H
  have A7 := Aside0.mk A70
  clear A70
  replace H := Option.bind_eq_some_iff.mp H
  obtain ⟨t132, A80, H⟩ := H
  replace H : ((lanternref09_Right.f k l0).bind fun t133 => (if t131 = true then (if t132 = t133 then (if t132 = 0 then (if (l0.length : Int) = 0 then (lanternlaw09_PlanOrder.j0 k l0 l1 a2 a3 a4 a5 t131 t132 t133 true) else (lanternlaw09_PlanOrder.j0 k l0 l1 a2 a3 a4 a5 t131 t132 t133 (decide ((l0.length : Int) ≥ 100)))) else (lanternlaw09_PlanOrder.j0 k l0 l1 a2 a3 a4 a5 t131 t132 t133 true)) else (lanternlaw09_PlanOrder.j0 k l0 l1 a2 a3 a4 a5 t131 t132 t133 true)) else (lanternlaw09_PlanOrder.j0 k l0 l1 a2 a3 a4 a5 t131 t132 t133 true))) = some r := H
  have A8 := Aside0.mk A80
  clear A80
  replace H := Option.bind_eq_some_iff.mp H
  obtain ⟨t133, A90, H⟩ := H
  replace H : (if t131 = true then (if t132 = t133 then (if t132 = 0 then (if (l0.length : Int) = 0 then (lanternlaw09_PlanOrder.j0 k l0 l1 a2 a3 a4 a5 t131 t132 t133 true) else (lanternlaw09_PlanOrder.j0 k l0 l1 a2 a3 a4 a5 t131 t132 t133 (decide ((l0.length : Int) ≥ 100)))) else (lanternlaw09_PlanOrder.j0 k l0 l1 a2 a3 a4 a5 t131 t132 t133 true)) else (lanternlaw09_PlanOrder.j0 k l0 l1 a2 a3 a4 a5 t131 t132 t133 true)) else (lanternlaw09_PlanOrder.j0 k l0 l1 a2 a3 a4 a5 t131 t132 t133 true)) = some r := H
  have A9 := Aside0.mk A90
  clear A90
  have HC10 := Aside0.mk H
  clear H
  go_enter Try.func6, Try.ntmps6
  go_upto_region 4 with (first | (go_at_call 7; (with_reducible refine (lanternlaw09_awake.calls k  t131 _ A7.out).mono ?_); rintro e w11 ⟨rfl, hb⟩; have n0_ := Aside0.mk (below_step (by repeat (first | (with_reducible first | exact HB.out | apply below_alloc | apply pw_below_drewN | apply below_drew1) | exact HB.out)) hb); clear HB; have HB := n0_; clear n0_; (try clear hb); (try clear hb2); (try clear hk); (try clear hi)) | (go_at_call 8; (with_reducible refine (plan_Right.calls k _ _ l0 t132 _ ?side1 ?side2 A8.out).mono ?_); (case side1 => repeat (first | exact (Kd.C_below HR0.out HB.out) | (with_reducible refine Kd.C_alloc ?_ _) | (with_reducible refine Kd.C_drewN ?_ _) | (with_reducible refine Kd.C_drew ?_))); (case side2 => exact HC0.out); rintro e w12 ⟨rfl, hb⟩; have n0_ := Aside0.mk (below_step (by repeat (first | (with_reducible first | exact HB.out | apply below_alloc | apply pw_below_drewN | apply below_drew1) | exact HB.out)) hb); clear HB; have HB := n0_; clear n0_; (try clear hb); (try clear hb2); (try clear hk); (try clear hi)) | (go_at_call 9; (with_reducible refine (lanternref09_Right.calls k _ _ l0 t133 _ ?side1 ?side2 A9.out).mono ?_); (case side1 => repeat (first | exact (Kd.C_below HR0.out HB.out) | (with_reducible refine Kd.C_alloc ?_ _) | (with_reducible refine Kd.C_drewN ?_ _) | (with_reducible refine Kd.C_drew ?_))); (case side2 => exact HC0.out); rintro e w13 ⟨rfl, hb⟩; have n0_ := Aside0.mk (below_step (by repeat (first | (with_reducible first | exact HB.out | apply below_alloc | apply pw_below_drewN | apply below_drew1) | exact HB.out)) hb); clear HB; have HB := n0_; clear n0_; (try clear hb); (try clear hb2); (try clear hk); (try clear hi)))
  repeat (go_quiet (first | (go_at_call 7; (with_reducible refine (lanternlaw09_awake.calls k  t131 _ A7.out).mono ?_); rintro e w11 ⟨rfl, hb⟩; have n0_ := Aside0.mk (below_step (by repeat (first | (with_reducible first | exact HB.out | apply below_alloc | apply pw_below_drewN | apply below_drew1) | exact HB.out)) hb); clear HB; have HB := n0_; clear n0_; (try clear hb); (try clear hb2); (try clear hk); (try clear hi)) | (go_at_call 8; (with_reducible refine (plan_Right.calls k _ _ l0 t132 _ ?side1 ?side2 A8.out).mono ?_); (case side1 => repeat (first | exact (Kd.C_below HR0.out HB.out) | (with_reducible refine Kd.C_alloc ?_ _) | (with_reducible refine Kd.C_drewN ?_ _) | (with_reducible refine Kd.C_drew ?_))); (case side2 => exact HC0.out); rintro e w12 ⟨rfl, hb⟩; have n0_ := Aside0.mk (below_step (by repeat (first | (with_reducible first | exact HB.out | apply below_alloc | apply pw_below_drewN | apply below_drew1) | exact HB.out)) hb); clear HB; have HB := n0_; clear n0_; (try clear hb); (try clear hb2); (try clear hk); (try clear hi)) | (go_at_call 9; (with_reducible refine (lanternref09_Right.calls k _ _ l0 t133 _ ?side1 ?side2 A9.out).mono ?_); (case side1 => repeat (first | exact (Kd.C_below HR0.out HB.out) | (with_reducible refine Kd.C_alloc ?_ _) | (with_reducible refine Kd.C_drewN ?_ _) | (with_reducible refine Kd.C_drew ?_))); (case side2 => exact HC0.out); rintro e w13 ⟨rfl, hb⟩; have n0_ := Aside0.mk (below_step (by repeat (first | (with_reducible first | exact HB.out | apply below_alloc | apply pw_below_drewN | apply below_drew1) | exact HB.out)) hb); clear HB; have HB := n0_; clear n0_; (try clear hb); (try clear hb2); (try clear hk); (try clear hi))); go_upto_region 4 with (first | (go_at_call 7; (with_reducible refine (lanternlaw09_awake.calls k  t131 _ A7.out).mono ?_); rintro e w11 ⟨rfl, hb⟩; have n0_ := Aside0.mk (below_step (by repeat (first | (with_reducible first | exact HB.out | apply below_alloc | apply pw_below_drewN | apply below_drew1) | exact HB.out)) hb); clear HB; have HB := n0_; clear n0_; (try clear hb); (try clear hb2); (try clear hk); (try clear hi)) | (go_at_call 8; (with_reducible refine (plan_Right.calls k _ _ l0 t132 _ ?side1 ?side2 A8.out).mono ?_); (case side1 => repeat (first | exact (Kd.C_below HR0.out HB.out) | (with_reducible refine Kd.C_alloc ?_ _) | (with_reducible refine Kd.C_drewN ?_ _) | (with_reducible refine Kd.C_drew ?_))); (case side2 => exact HC0.out); rintro e w12 ⟨rfl, hb⟩; have n0_ := Aside0.mk (below_step (by repeat (first | (with_reducible first | exact HB.out | apply below_alloc | apply pw_below_drewN | apply below_drew1) | exact HB.out)) hb); clear HB; have HB := n0_; clear n0_; (try clear hb); (try clear hb2); (try clear hk); (try clear hi)) | (go_at_call 9; (with_reducible refine (lanternref09_Right.calls k _ _ l0 t133 _ ?side1 ?side2 A9.out).mono ?_); (case side1 => repeat (first | exact (Kd.C_below HR0.out HB.out) | (with_reducible refine Kd.C_alloc ?_ _) | (with_reducible refine Kd.C_drewN ?_ _) | (with_reducible refine Kd.C_drew ?_))); (case side2 => exact HC0.out); rintro e w13 ⟨rfl, hb⟩; have n0_ := Aside0.mk (below_step (by repeat (first | (with_reducible first | exact HB.out | apply below_alloc | apply pw_below_drewN | apply below_drew1) | exact HB.out)) hb); clear HB; have HB := n0_; clear n0_; (try clear hb); (try clear hb2); (try clear hk); (try clear hi))))
  (try simp only [Act.put, List.setIfInBounds_toArray, List.set_cons_zero, List.set_cons_succ])
  go_cut [57] (fun v57 wc => ∃ (kq : Nat) (x57_9 : Bool), v57 = .bool x57_9 ∧ Aside0 (lanternlaw09_PlanOrder.j0 kq l0 l1 a2 a3 a4 a5 t131 t132 t133 x57_9 = some r) ∧ Aside0 (kq ≤ k) ∧ Aside0 (Below w.heap.size w wc))
  case first =>
    have H := HC10.out
    clear HC10
    by_cases c14 : t131 = true
    · subst c14
      have H1 : (if t132 = t133 then (if t132 = 0 then (if (l0.length : Int) = 0 then (lanternlaw09_PlanOrder.j0 k l0 l1 a2 a3 a4 a5 true t132 t133 true) else (lanternlaw09_PlanOrder.j0 k l0 l1 a2 a3 a4 a5 true t132 t133 (decide ((l0.length : Int) ≥ 100)))) else (lanternlaw09_PlanOrder.j0 k l0 l1 a2 a3 a4 a5 true t132 t133 true)) else (lanternlaw09_PlanOrder.j0 k l0 l1 a2 a3 a4 a5 true t132 t133 true)) = some r := by rw [if_pos rfl] at H; exact H
      clear H
      have H := H1
      clear H1
      by_cases c15 : t132 = t133
      · rw [if_pos c15] at H
        have c15b0 : (t132 == t133) = true := beq_iff_eq.mpr c15
        have c15b1 : (t132 != t133) = false := bne_eq_false_iff_eq.mpr c15
        clear c15
        (first | rw [c15b0] | (simp only [i64_w, i32_w]; rw [c15b0]) | skip)
        by_cases c16 : t132 = 0
        · rw [if_pos c16] at H
          have c16b0 : (t132 == 0) = true := beq_iff_eq.mpr c16
          have c16b1 : (t132 != 0) = false := bne_eq_false_iff_eq.mpr c16
          clear c16
          by_cases c17 : (l0.length : Int) = 0
          · rw [if_pos c17] at H
            have c17b0 : ((l0.length : Int) == 0) = true := beq_iff_eq.mpr c17
            have c17b1 : ((l0.length : Int) != 0) = false := bne_eq_false_iff_eq.mpr c17
            clear c17
            have H' := Aside0.mk H
            clear H
            go_wp2
            repeat (go_quiet (fail); try go_wp2)
            go_meet
            case rel => exact ⟨_, (true), (by first | rfl | (simp; done) | (simp [*]; done)), H', ⟨by first | omega | exact Nat.le_refl _⟩, ⟨by repeat (first | (with_reducible first | exact HB.out | apply below_alloc | apply pw_below_drewN | apply below_drew1) | exact HB.out)⟩⟩
          · rw [if_neg c17] at H
            have c17b0 : ((l0.length : Int) == 0) = false := beq_eq_false_iff_ne.mpr c17
            have c17b1 : ((l0.length : Int) != 0) = true := bne_iff_ne.mpr c17
            have c17b2 : ¬ (l0 = []) := fun h_ => c17 (by rw [h_]; rfl)
            have H' := Aside0.mk H
            clear H
            go_wp2
            repeat (go_quiet (fail); try go_wp2)
            go_meet
            case rel => exact ⟨_, (decide ((l0.length : Int) ≥ 100)), (by first | rfl | (simp; done) | (simp [*]; done)), H', ⟨by first | omega | exact Nat.le_refl _⟩, ⟨by repeat (first | (with_reducible first | exact HB.out | apply below_alloc | apply pw_below_drewN | apply below_drew1) | exact HB.out)⟩⟩
        · rw [if_neg c16] at H
          have c16b0 : (t132 == 0) = false := beq_eq_false_iff_ne.mpr c16
          have c16b1 : (t132 != 0) = true := bne_iff_ne.mpr c16
          have H' := Aside0.mk H
          clear H
          go_wp2
          repeat (go_quiet (fail); try go_wp2)
          go_meet
          case rel => exact ⟨_, (true), (by first | rfl | (simp; done) | (simp [*]; done)), H', ⟨by first | omega | exact Nat.le_refl _⟩, ⟨by repeat (first | (with_reducible first | exact HB.out | apply below_alloc | apply pw_below_drewN | apply below_drew1) | exact HB.out)⟩⟩
      · rw [if_neg c15] at H
        have c15b0 : (t132 == t133) = false := beq_eq_false_iff_ne.mpr c15
        have c15b1 : (t132 != t133) = true := bne_iff_ne.mpr c15
        (first | rw [c15b0] | (simp only [i64_w, i32_w]; rw [c15b0]) | skip)
        have H' := Aside0.mk H
        clear H
        go_wp2
        repeat (go_quiet (fail); try go_wp2)
        go_meet
        case rel => exact ⟨_, (true), (by first | rfl | (simp; done) | (simp [*]; done)), H', ⟨by first | omega | exact Nat.le_refl _⟩, ⟨by repeat (first | (with_reducible first | exact HB.out | apply below_alloc | apply pw_below_drewN | apply below_drew1) | exact HB.out)⟩⟩
    · replace c14 := Bool.eq_false_iff.mpr c14
      subst c14
      have H1 : (lanternlaw09_PlanOrder.j0 k l0 l1 a2 a3 a4 a5 false t132 t133 true) = some r := by rw [if_neg (show ¬ (false = true) by decide)] at H; exact H
      clear H
      have H := H1
      clear H1
      have H' := Aside0.mk H
      clear H
      go_wp2
      repeat (go_quiet (fail); try go_wp2)
      go_meet
      case rel => exact ⟨_, (true), (by first | rfl | (simp; done) | (simp [*]; done)), H', ⟨by first | omega | exact Nat.le_refl _⟩, ⟨by repeat (first | (with_reducible first | exact HB.out | apply below_alloc | apply pw_below_drewN | apply below_drew1) | exact HB.out)⟩⟩
  case rest =>
    clear HC10
    try clear c1
    try clear p2
    try clear c6
    try clear c14
    try clear c15
    try clear c15b0
    try clear c15b1
    try clear c16
    try clear c16b0
    try clear c16b1
    try clear c17
    try clear c17b0
    try clear c17b1
    try clear c17b2
    obtain ⟨kq, x57_9, rfl, HA, HJ9, HB⟩ := hcut
    cases kq with
    | zero => exact absurd HA.out (by simp [lanternlaw09_PlanOrder.j0])
    | succ kj9 =>
      have H := HA.out
      clear HA
      simp only [lanternlaw09_PlanOrder.j0] at H
      by_cases c18 : x57_9 = true
      · subst c18
        have H1 : (if t131 = true then (some (t132 == t133)) else (some false)) = some r := by rw [if_pos rfl] at H; exact H
        clear H
        have H := H1
        clear H1
        by_cases c19 : t131 = true
        · subst c19
          have H1 : (some (t132 == t133)) = some r := by rw [if_pos rfl] at H; exact H
          clear H
          have H := H1
          clear H1
          obtain rfl := Option.some.inj H
          go_wp2
          repeat (go_quiet (fail); try go_wp2)
          go_ret
          exact ⟨by first | rfl | (simp [errW_none, errW_some] <;> rfl) | (simp [*, errW_none, errW_some] <;> rfl), by repeat (first | (with_reducible first | exact HB.out | apply below_alloc | apply pw_below_drewN | apply below_drew1) | exact HB.out)⟩
        · replace c19 := Bool.eq_false_iff.mpr c19
          subst c19
          have H1 : (some false) = some r := by rw [if_neg (show ¬ (false = true) by decide)] at H; exact H
          clear H
          have H := H1
          clear H1
          obtain rfl := Option.some.inj H
          go_wp2
          repeat (go_quiet (fail); try go_wp2)
          go_ret
          exact ⟨by first | rfl | (simp [errW_none, errW_some] <;> rfl) | (simp [*, errW_none, errW_some] <;> rfl), by repeat (first | (with_reducible first | exact HB.out | apply below_alloc | apply pw_below_drewN | apply below_drew1) | exact HB.out)⟩
      · replace c18 := Bool.eq_false_iff.mpr c18
        subst c18
        have H1 : (if ([] : List (S34)).length + l0.length < 4398046511104 then ((some (([] : List (S34)) ++ l0 : List (S34))).bind fun y134 => (if 0 < (y134.length : Int) then (if a2 ≥ 0 then (if (wrap64 (((rd_T34 y134 0).f2) - ((rd_T34 y134 0).f1))) = 0 then (none) else (lanternlaw09_PlanOrder.j1 kj9 l0 l1 a3 a4 a5 y134 (wrap64 ((wrap64 (((rd_T34 y134 0).f1) + 1)) + (Int.tmod a2 (wrap64 (((rd_T34 y134 0).f2) - ((rd_T34 y134 0).f1)))))) ((rd_T34 y134 0).f0) ((rd_T34 y134 0).f1) ((rd_T34 y134 0).f2) ((rd_T34 y134 0).f3))) else (lanternlaw09_PlanOrder.j1 kj9 l0 l1 a3 a4 a5 y134 (wrap64 (((rd_T34 y134 0).f1) + 1)) ((rd_T34 y134 0).f0) ((rd_T34 y134 0).f1) ((rd_T34 y134 0).f2) ((rd_T34 y134 0).f3))) else (none))) else (none)) = some r := by rw [if_neg (show ¬ (false = true) by decide)] at H; exact H
        clear H
        have H := H1
        clear H1
        by_cases c20 : ([] : List (S34)).length + l0.length < 4398046511104
        · rw [if_pos c20] at H
          have LMc20 := Aside0.mk c20
          clear c20
          obtain ⟨y134, hy134⟩ : ∃ y_ : List (S34), y_ = (([] : List (S34)) ++ l0) := ⟨_, rfl⟩
          replace H : (if 0 < (y134.length : Int) then (if a2 ≥ 0 then (if (wrap64 (((rd_T34 y134 0).f2) - ((rd_T34 y134 0).f1))) = 0 then (none) else (lanternlaw09_PlanOrder.j1 kj9 l0 l1 a3 a4 a5 y134 (wrap64 ((wrap64 (((rd_T34 y134 0).f1) + 1)) + (Int.tmod a2 (wrap64 (((rd_T34 y134 0).f2) - ((rd_T34 y134 0).f1)))))) ((rd_T34 y134 0).f0) ((rd_T34 y134 0).f1) ((rd_T34 y134 0).f2) ((rd_T34 y134 0).f3))) else (lanternlaw09_PlanOrder.j1 kj9 l0 l1 a3 a4 a5 y134 (wrap64 (((rd_T34 y134 0).f1) + 1)) ((rd_T34 y134 0).f0) ((rd_T34 y134 0).f1) ((rd_T34 y134 0).f2) ((rd_T34 y134 0).f3))) else (none)) = some r := by first | (rw [hy134]; with_reducible exact H) | (have H2_ := (Option.bind_some _ _).symm.trans H; rw [hy134]; with_reducible exact H2_) | (have H2_ := (Option.bind_some _ _).symm.trans H; with_reducible exact H2_) | with_reducible exact H | (rw [hy134]; exact H) | exact H
          have Ny134 := Aside0.mk hy134
          clear hy134
          by_cases c21 : 0 < (y134.length : Int)
          · rw [if_pos c21] at H
            have c21b0 : decide (0 < (y134.length : Int)) = true := decide_eq_true c21
            have c21b1 : decide (0 < y134.length) = true := decide_eq_true (by omega)
            clear c21
            have HC22 := Aside0.mk H
            clear H
            go_upto_if 74 with (first | ((with_reducible refine gate_builtin (b := .append) (xs := #[.tmp 64, .tmp 65]) rfl ?_); (try (refine gate_guard (by rfl) ?_; dsimp only)); at_builtin; refine Kd.R_append_rows k34 (w0 := w) w.heap.size rfl (.tmp 64) (.tmp 65) 22 34 (.agg #[(.int .i64 0), (.int .i64 0), (.int .i64 0), (.int .i64 0)]) 32 rfl Try.underlying22 info34 rfl (by decide) (by omega) (.slice none 0 0) ([] : List (S34)) l0 _ _ _ (fun _ => True) (fun _ => False) rfl rfl ?aO ?aR (fun _ _ h => h) (fun _ h => h.elim) ?aF ?aB ?aS ?aL ?_; (case aR => repeat (first | exact (Kd.C_below HR0.out HB.out) | (with_reducible refine Kd.C_alloc ?_ _) | (with_reducible refine Kd.C_drewN ?_ _) | (with_reducible refine Kd.C_drew ?_))); (case aB => exact (by repeat (first | (with_reducible first | exact HB.out | apply below_alloc | apply pw_below_drewN | apply below_drew1) | exact HB.out))); (case aF => exact (fun _ _ => trivial)); (case aO => exact ((Kd.R_nil _ _ _ _ (fun _ => True)))); (case aS => exact (below_size (by repeat (first | (with_reducible first | exact HB.out | apply below_alloc | apply pw_below_drewN | apply below_drew1) | exact HB.out)))); (case aL => have := LMc20.out; omega); intro v135 w23 ho hb hg hat; rw [← Ny134.out] at ho; have n0_ := Aside0.mk (hb); have n1_ := Aside0.mk (ho); clear HB; have HB := n0_; have HO136 := n1_; clear n0_ n1_; clear ho hb hg hat; obtain ⟨Ao24, co24, eo24⟩ := Kd.R_slice HO136.out; subst eo24; have p137 : 0 ≤ (0 : Int) := (by omega); have q137 : 0 < (y134.length : Int) := of_decide_eq_true (by first | (with_reducible assumption) | assumption); obtain ⟨ad137, e137, hx137_0, hx137_1, hx137_2, hx137_3⟩ := at_T34 (Kd.R_reads' HO136.out).2.2 0 p137 q137; cases e137; have qi137 : (0 < y134.length) = True := eq_true (by omega); (try rw [show ((0 : Int)).toNat = 0 from rfl] at hx137_0); (try rw [show 0 * 4 = 0 from rfl] at hx137_0); (try rw [Addr.add_zero'] at hx137_0); (try rw [show ((0 : Int)).toNat = 0 from rfl] at hx137_1); (try rw [show 0 * 4 = 0 from rfl] at hx137_1); (try rw [Addr.add_zero'] at hx137_1); (try rw [show ((0 : Int)).toNat = 0 from rfl] at hx137_2); (try rw [show 0 * 4 = 0 from rfl] at hx137_2); (try rw [Addr.add_zero'] at hx137_2); (try rw [show ((0 : Int)).toNat = 0 from rfl] at hx137_3); (try rw [show 0 * 4 = 0 from rfl] at hx137_3); (try rw [Addr.add_zero'] at hx137_3); replace p137 := eq_true p137; replace q137 := eq_true q137) | ((with_reducible refine gate_dst (N := 17) rfl ?_); (try (refine gate_guard (by rfl) ?_; dsimp only)); refine box_event ?hg (N := 17) ?hd (cs := #[.int .i64 0, .int .i64 0, .int .i64 0, .int .i64 0]) (t := 34) ?hr ?_; (case hd => rfl); (case hg => rfl); (case hr => first | (go_simp; done) | (go_simp; rfl)); intro gb138 hg w25 hbox hb; have n0_ := Aside0.mk (Kd.R_below (Kd.R_elderB (by (with_reducible repeat (first | apply Kd.R_alloc | apply Kd.R_drewN | apply Kd.R_drew)); exact HO136.out) gb138 (Nat.le_of_eq hg.symm)) hb); have n1_ := Aside0.mk (below_step (by repeat (first | (with_reducible first | exact HB.out | apply below_alloc | apply pw_below_drewN | apply below_drew1) | exact HB.out)) hb); have n2_ := Aside0.mk (hbox); have n3_ := Aside0.mk ((by rw [hg]; exact (below_size (by repeat (first | (with_reducible first | exact HB.out | apply below_alloc | apply pw_below_drewN | apply below_drew1) | exact HB.out))) : w.heap.size ≤ gb138)); have n4_ := Aside0.mk ((by rw [hg]; exact (below_size (by repeat (first | (with_reducible first | exact HB.out | apply below_alloc | apply pw_below_drewN | apply below_drew1) | exact HB.out))) : w.heap.size ≤ gb138)); clear HO136; clear HB; have HO136 := n0_; have HB := n1_; have BK138 := n2_; have GW138 := n3_; have GE138 := n4_; clear n0_ n1_ n2_ n3_ n4_; clear hb hbox hg; have hcz26_0 : w25.cell? ⟨gb138, 0, none⟩ = some (.int .i64 0) := (blk_cell BK138.out 0).trans rfl; have hcz26_1 : w25.cell? ⟨gb138, 1, none⟩ = some (.int .i64 0) := (blk_cell BK138.out 1).trans rfl; have hcz26_2 : w25.cell? ⟨gb138, 2, none⟩ = some (.int .i64 0) := (blk_cell BK138.out 2).trans rfl; have hcz26_3 : w25.cell? ⟨gb138, 3, none⟩ = some (.int .i64 0) := (blk_cell BK138.out 3).trans rfl; have hfz26_0 := blk_frozen BK138.out 0; have hfz26_1 := blk_frozen BK138.out 1; have hfz26_2 := blk_frozen BK138.out 2; have hfz26_3 := blk_frozen BK138.out 3))
            (try simp only [Act.put, List.setIfInBounds_toArray, List.set_cons_zero, List.set_cons_succ])
            go_cut [18] (fun v18 wc => ∃ (kq : Nat) (x18_21 : Int), v18 = .int .i64 x18_21 ∧ Aside0 (lanternlaw09_PlanOrder.j1 kq l0 l1 a3 a4 a5 y134 x18_21 ((rd_T34 y134 0).f0) ((rd_T34 y134 0).f1) ((rd_T34 y134 0).f2) ((rd_T34 y134 0).f3) = some r) ∧ Aside0 (kq ≤ kj9) ∧ Aside0 (Kd.R k34 34 wc w.heap.size (fun k_ => k_ ≠ gb138) (.slice (some ad137) y134.length co24) y134) ∧ Aside0 (wc.heap[gb138]? = some (.cells #[.int .i64 ((rd_T34 y134 0).f0), .int .i64 ((rd_T34 y134 0).f1), .int .i64 ((rd_T34 y134 0).f2), .int .i64 ((rd_T34 y134 0).f3)] 34 (0, 0))) ∧ Aside0 (Below w.heap.size w wc))
            case first =>
              have H := HC22.out
              clear HC22
              by_cases c27 : a2 ≥ 0
              · rw [if_pos c27] at H
                have c27b0 : decide (0 ≤ a2) = true := decide_eq_true c27
                clear c27
                (first | rw [c27b0] | (simp only [i64_w, i32_w]; rw [c27b0]) | skip)
                by_cases c28 : (wrap64 (((rd_T34 y134 0).f2) - ((rd_T34 y134 0).f1))) = 0
                · rw [if_pos c28] at H
                  exact absurd H (by simp)
                · rw [if_neg c28] at H
                  have c28b0 : ((wrap64 (((rd_T34 y134 0).f2) - ((rd_T34 y134 0).f1))) == 0) = false := beq_eq_false_iff_ne.mpr c28
                  have c28b1 : ((wrap64 (((rd_T34 y134 0).f2) - ((rd_T34 y134 0).f1))) != 0) = true := bne_iff_ne.mpr c28
                  have H' := Aside0.mk H
                  clear H
                  have hcz29_0 : w25.cell? ⟨gb138, 0, none⟩ = some (.int .i64 0) := (blk_cell BK138.out 0).trans rfl
                  have hcz29_1 : w25.cell? ⟨gb138, 1, none⟩ = some (.int .i64 0) := (blk_cell BK138.out 1).trans rfl
                  have hcz29_2 : w25.cell? ⟨gb138, 2, none⟩ = some (.int .i64 0) := (blk_cell BK138.out 2).trans rfl
                  have hcz29_3 : w25.cell? ⟨gb138, 3, none⟩ = some (.int .i64 0) := (blk_cell BK138.out 3).trans rfl
                  have hfz29_0 := blk_frozen BK138.out 0
                  have hfz29_1 := blk_frozen BK138.out 1
                  have hfz29_2 := blk_frozen BK138.out 2
                  have hfz29_3 := blk_frozen BK138.out 3
                  go_wp2
                  repeat (go_quiet (fail); try go_wp2)
                  go_meet
                  case rel => exact ⟨_, (wrap64 ((wrap64 (((rd_T34 y134 0).f1) + 1)) + (Int.tmod a2 (wrap64 (((rd_T34 y134 0).f2) - ((rd_T34 y134 0).f1)))))), (by first | rfl | (simp; done) | (simp [*]; done)), H', ⟨by have := HJ9.out; first | omega | exact Nat.le_refl _⟩, ⟨by (with_reducible repeat (first | apply Kd.R_alloc | apply Kd.R_drewN | apply Kd.R_drew)); exact Kd.R_mono (Kd.R_far (p := ⟨gb138, 3, none⟩) (Kd.R_far (p := ⟨gb138, 2, none⟩) (Kd.R_far (p := ⟨gb138, 1, none⟩) (Kd.R_far (p := ⟨gb138, 0, none⟩) (Kd.R_mono HO136.out (fun k_ hk => (⟨hk, hk.2⟩ : _ ∧ k_ ≠ gb138))) (fun _ hk => hk.2) (.int .i64 ((rd_T34 y134 0).f0))) (fun _ hk => hk.2) (.int .i64 ((rd_T34 y134 0).f1))) (fun _ hk => hk.2) (.int .i64 ((rd_T34 y134 0).f2))) (fun _ hk => hk.2) (.int .i64 ((rd_T34 y134 0).f3))) (fun _ hk => hk.1.2)⟩, ⟨by (with_reducible repeat (first | refine blk_drewN ?_ _ | refine blk_drew ?_ | refine blk_alloc ?_ _)); refine blk_put (cs := #[.int .i64 ((rd_T34 y134 0).f0), .int .i64 ((rd_T34 y134 0).f1), .int .i64 ((rd_T34 y134 0).f2), .int .i64 0]) ?_ 3 _ rfl; (with_reducible repeat (first | refine blk_drewN ?_ _ | refine blk_drew ?_ | refine blk_alloc ?_ _)); refine blk_put (cs := #[.int .i64 ((rd_T34 y134 0).f0), .int .i64 ((rd_T34 y134 0).f1), .int .i64 0, .int .i64 0]) ?_ 2 _ rfl; (with_reducible repeat (first | refine blk_drewN ?_ _ | refine blk_drew ?_ | refine blk_alloc ?_ _)); refine blk_put (cs := #[.int .i64 ((rd_T34 y134 0).f0), .int .i64 0, .int .i64 0, .int .i64 0]) ?_ 1 _ rfl; (with_reducible repeat (first | refine blk_drewN ?_ _ | refine blk_drew ?_ | refine blk_alloc ?_ _)); refine blk_put (cs := #[.int .i64 0, .int .i64 0, .int .i64 0, .int .i64 0]) ?_ 0 _ rfl; (with_reducible repeat (first | refine blk_drewN ?_ _ | refine blk_drew ?_ | refine blk_alloc ?_ _)); exact BK138.out⟩, ⟨by repeat (first | (with_reducible first | exact HB.out | apply below_alloc | apply pw_below_drewN | apply below_drew1 | refine below_set ?_ GE138.out) | exact HB.out)⟩⟩
              · rw [if_neg c27] at H
                have c27b0 : decide (0 ≤ a2) = false := decide_eq_false c27
                clear c27
                (first | rw [c27b0] | (simp only [i64_w, i32_w]; rw [c27b0]) | skip)
                have H' := Aside0.mk H
                clear H
                go_wp2
                repeat (go_quiet (fail); try go_wp2)
                go_meet
                case rel => exact ⟨_, (wrap64 (((rd_T34 y134 0).f1) + 1)), (by first | rfl | (simp; done) | (simp [*]; done)), H', ⟨by have := HJ9.out; first | omega | exact Nat.le_refl _⟩, ⟨by (with_reducible repeat (first | apply Kd.R_alloc | apply Kd.R_drewN | apply Kd.R_drew)); exact Kd.R_mono (Kd.R_far (p := ⟨gb138, 3, none⟩) (Kd.R_far (p := ⟨gb138, 2, none⟩) (Kd.R_far (p := ⟨gb138, 1, none⟩) (Kd.R_far (p := ⟨gb138, 0, none⟩) (Kd.R_mono HO136.out (fun k_ hk => (⟨hk, hk.2⟩ : _ ∧ k_ ≠ gb138))) (fun _ hk => hk.2) (.int .i64 ((rd_T34 y134 0).f0))) (fun _ hk => hk.2) (.int .i64 ((rd_T34 y134 0).f1))) (fun _ hk => hk.2) (.int .i64 ((rd_T34 y134 0).f2))) (fun _ hk => hk.2) (.int .i64 ((rd_T34 y134 0).f3))) (fun _ hk => hk.1.2)⟩, ⟨by (with_reducible repeat (first | refine blk_drewN ?_ _ | refine blk_drew ?_ | refine blk_alloc ?_ _)); refine blk_put (cs := #[.int .i64 ((rd_T34 y134 0).f0), .int .i64 ((rd_T34 y134 0).f1), .int .i64 ((rd_T34 y134 0).f2), .int .i64 0]) ?_ 3 _ rfl; (with_reducible repeat (first | refine blk_drewN ?_ _ | refine blk_drew ?_ | refine blk_alloc ?_ _)); refine blk_put (cs := #[.int .i64 ((rd_T34 y134 0).f0), .int .i64 ((rd_T34 y134 0).f1), .int .i64 0, .int .i64 0]) ?_ 2 _ rfl; (with_reducible repeat (first | refine blk_drewN ?_ _ | refine blk_drew ?_ | refine blk_alloc ?_ _)); refine blk_put (cs := #[.int .i64 ((rd_T34 y134 0).f0), .int .i64 0, .int .i64 0, .int .i64 0]) ?_ 1 _ rfl; (with_reducible repeat (first | refine blk_drewN ?_ _ | refine blk_drew ?_ | refine blk_alloc ?_ _)); refine blk_put (cs := #[.int .i64 0, .int .i64 0, .int .i64 0, .int .i64 0]) ?_ 0 _ rfl; (with_reducible repeat (first | refine blk_drewN ?_ _ | refine blk_drew ?_ | refine blk_alloc ?_ _)); exact BK138.out⟩, ⟨by repeat (first | (with_reducible first | exact HB.out | apply below_alloc | apply pw_below_drewN | apply below_drew1 | refine below_set ?_ GE138.out) | exact HB.out)⟩⟩
            case rest =>
              clear HC22
              try clear c1
              try clear p1
              try clear q1
              try clear hx1
              try clear qi1
              try clear c2
              try clear p2
              try clear c6
              try clear p6
              try clear p13
              try clear q13
              try clear hx13
              try clear qi13
              try clear c14
              try clear c15
              try clear c15b0
              try clear c15b1
              try clear c16
              try clear c16b0
              try clear c16b1
              try clear c17
              try clear c17b0
              try clear c17b1
              try clear c17b2
              try clear c18
              try clear c19
              try clear c20
              try clear c21
              try clear c21b0
              try clear c21b1
              try clear c27
              try clear c27b0
              try clear c28
              try clear c28b0
              try clear c28b1
              try clear hcz26_0
              try clear hcz26_1
              try clear hcz26_2
              try clear hcz26_3
              try clear hcz29_0
              try clear hcz29_1
              try clear hcz29_2
              try clear hcz29_3
              try clear hfz26_0
              try clear hfz26_1
              try clear hfz26_2
              try clear hfz26_3
              try clear hfz29_0
              try clear hfz29_1
              try clear hfz29_2
              try clear hfz29_3
              try clear hx137_0
              try clear hx137_1
              try clear hx137_2
              try clear hx137_3
              try clear p137
              try clear p2
              try clear q137
              obtain ⟨kq, x18_21, rfl, HA, HJ21, HO_16, BK138, HB⟩ := hcut
              cases kq with
              | zero => exact absurd HA.out (by simp [lanternlaw09_PlanOrder.j1])
              | succ kj21 =>
                have H := HA.out
                clear HA
                simp only [lanternlaw09_PlanOrder.j1] at H
                have HC30 := Aside0.mk H
                clear H
                have hcz31_0 : wc.cell? ⟨gb138, 0, none⟩ = some (.int .i64 ((rd_T34 y134 0).f0)) := (blk_cell BK138.out 0).trans rfl
                have hcz31_1 : wc.cell? ⟨gb138, 1, none⟩ = some (.int .i64 ((rd_T34 y134 0).f1)) := (blk_cell BK138.out 1).trans rfl
                have hcz31_2 : wc.cell? ⟨gb138, 2, none⟩ = some (.int .i64 ((rd_T34 y134 0).f2)) := (blk_cell BK138.out 2).trans rfl
                have hcz31_3 : wc.cell? ⟨gb138, 3, none⟩ = some (.int .i64 ((rd_T34 y134 0).f3)) := (blk_cell BK138.out 3).trans rfl
                have hfz31_0 := blk_frozen BK138.out 0
                have hfz31_1 := blk_frozen BK138.out 1
                have hfz31_2 := blk_frozen BK138.out 2
                have hfz31_3 := blk_frozen BK138.out 3
                go_upto_if 89 with (fail)
                repeat (go_quiet (fail); go_upto_if 89 with (fail))
                go_cut [16] (fun v16 wc => ∃ (kq : Nat) (x16_29 : List (S34)) (x139002_29 : Int), Aside0 (lanternlaw09_PlanOrder.j2 kq l0 l1 a3 a4 a5 x16_29 = some r) ∧ Aside0 (kq ≤ kj21) ∧ Aside0 (Kd.R k34 34 wc w.heap.size (fun k_ => k_ ≠ gb138) v16 x16_29) ∧ Aside0 (wc.heap[gb138]? = some (.cells #[.int .i64 ((rd_T34 y134 0).f0), .int .i64 ((rd_T34 y134 0).f1), .int .i64 x139002_29, .int .i64 ((rd_T34 y134 0).f3)] 34 (0, 0))) ∧ Aside0 (Below w.heap.size w wc))
                case first =>
                  have H := HC30.out
                  clear HC30
                  by_cases c32 : x18_21 < ((rd_T34 y134 0).f2)
                  · rw [if_pos c32] at H
                    have c32b0 : decide (x18_21 < ((rd_T34 y134 0).f2)) = true := decide_eq_true c32
                    clear c32
                    (first | rw [c32b0] | (simp only [i64_w, i32_w]; rw [c32b0]) | skip)
                    by_cases c33 : 0 < (y134.length : Int)
                    · rw [if_pos c33] at H
                      have c33b0 : decide (0 < (y134.length : Int)) = true := decide_eq_true c33
                      have c33b1 : decide (0 < y134.length) = true := decide_eq_true (by omega)
                      clear c33
                      obtain ⟨y139, hy139⟩ : ∃ y_ : List (S34), y_ = (y134.set (0 : Int).toNat (⟨(rd_T34 y134 0).f0, (rd_T34 y134 0).f1, x18_21, (rd_T34 y134 0).f3⟩ : S34)) := ⟨_, rfl⟩
                      replace H : (if y139.length < 4398046511104 then (lanternlaw09_PlanOrder.j2 kj21 l0 l1 a3 a4 a5 (y139 ++ [(⟨((rd_T34 y134 0).f0), x18_21, ((rd_T34 y134 0).f2), ((rd_T34 y134 0).f3)⟩ : S34)])) else (none)) = some r := by first | (rw [hy139]; with_reducible exact H) | (have H2_ := (Option.bind_some _ _).symm.trans H; rw [hy139]; with_reducible exact H2_) | (have H2_ := (Option.bind_some _ _).symm.trans H; with_reducible exact H2_) | with_reducible exact H | (rw [hy139]; exact H) | exact H
                      have Ny139 := Aside0.mk hy139
                      clear hy139
                      by_cases c35 : y139.length < 4398046511104
                      · rw [if_pos c35] at H
                        have LMc35 := Aside0.mk c35
                        clear c35
                        obtain ⟨y140, hy140⟩ : ∃ y_ : List (S34), y_ = (y139 ++ [(⟨((rd_T34 y134 0).f0), x18_21, ((rd_T34 y134 0).f2), ((rd_T34 y134 0).f3)⟩ : S34)]) := ⟨_, rfl⟩
                        replace H : (lanternlaw09_PlanOrder.j2 kj21 l0 l1 a3 a4 a5 y140) = some r := by first | (rw [hy140]; with_reducible exact H) | (have H2_ := (Option.bind_some _ _).symm.trans H; rw [hy140]; with_reducible exact H2_) | (have H2_ := (Option.bind_some _ _).symm.trans H; with_reducible exact H2_) | with_reducible exact H | (rw [hy140]; exact H) | exact H
                        have Ny140 := Aside0.mk hy140
                        clear hy140
                        have H' := Aside0.mk H
                        clear H
                        have p34 : 0 ≤ (0 : Int) := (by omega)
                        have q34 : (0 : Int) < ((y134.length : Int) : Int) := of_decide_eq_true (by first | (with_reducible assumption) | assumption)
                        have qi34 : (0 < y134.length) = True := eq_true (by omega)
                        obtain ⟨go34, co34, eo34, gb34, gl34, cl34, HG34⟩ := Kd.R_form HO_16.out (by omega)
                        (first | cases eo34 | (injection eo34 with ea_ en_ ec_; (first | subst ea_ | (injection ea_ with ea_; subst ea_)); subst ec_; clear en_))
                        have GB34 := Aside0.mk gb34
                        have GG34 := Aside0.mk HG34
                        clear gb34 gl34 HG34
                        (first | simp only [add_plain] at hx137_0 | skip)
                        (first | simp only [add_plain] at hx137_1 | skip)
                        (first | simp only [add_plain] at hx137_2 | skip)
                        (first | simp only [add_plain] at hx137_3 | skip)
                        obtain ⟨ce34, hcl34, hM34, hcc34, hfr34⟩ := Kd.R_elem HO_16.out z34 (0 : Int) p34 q34
                        obtain rfl := k34_openM hM34
                        have hx34_0 : wc.cell? ⟨go34, (0 : Int).toNat * 4, none⟩ = some (.int .i64 ((rd_T34 y134 0).f0)) := hcc34 0 _ rfl
                        have hx34_1 : wc.cell? ⟨go34, (0 : Int).toNat * 4 + 1, none⟩ = some (.int .i64 ((rd_T34 y134 0).f1)) := hcc34 1 _ rfl
                        have hx34_2 : wc.cell? ⟨go34, (0 : Int).toNat * 4 + 2, none⟩ = some (.int .i64 ((rd_T34 y134 0).f2)) := hcc34 2 _ rfl
                        have hx34_3 : wc.cell? ⟨go34, (0 : Int).toNat * 4 + 3, none⟩ = some (.int .i64 ((rd_T34 y134 0).f3)) := hcc34 3 _ rfl
                        have hf34_0 : wc.frozen? ⟨go34, (0 : Int).toNat * 4, none⟩ = false := hfr34 0
                        have hf34_1 : wc.frozen? ⟨go34, (0 : Int).toNat * 4 + 1, none⟩ = false := hfr34 1
                        have hf34_2 : wc.frozen? ⟨go34, (0 : Int).toNat * 4 + 2, none⟩ = false := hfr34 2
                        have hf34_3 : wc.frozen? ⟨go34, (0 : Int).toNat * 4 + 3, none⟩ = false := hfr34 3
                        clear hcl34 hcc34 hfr34 hM34
                        (try rw [show ((0 : Int)).toNat = 0 from rfl] at hx34_0)
                        (try simp only [Nat.reduceMul, Nat.zero_mul, Nat.zero_add, Nat.reduceAdd] at hx34_0)
                        (try rw [show ((0 : Int)).toNat = 0 from rfl] at hf34_0)
                        (try simp only [Nat.reduceMul, Nat.zero_mul, Nat.zero_add, Nat.reduceAdd] at hf34_0)
                        (try rw [show ((0 : Int)).toNat = 0 from rfl] at hx34_1)
                        (try simp only [Nat.reduceMul, Nat.zero_mul, Nat.zero_add, Nat.reduceAdd] at hx34_1)
                        (try rw [show ((0 : Int)).toNat = 0 from rfl] at hf34_1)
                        (try simp only [Nat.reduceMul, Nat.zero_mul, Nat.zero_add, Nat.reduceAdd] at hf34_1)
                        (try rw [show ((0 : Int)).toNat = 0 from rfl] at hx34_2)
                        (try simp only [Nat.reduceMul, Nat.zero_mul, Nat.zero_add, Nat.reduceAdd] at hx34_2)
                        (try rw [show ((0 : Int)).toNat = 0 from rfl] at hf34_2)
                        (try simp only [Nat.reduceMul, Nat.zero_mul, Nat.zero_add, Nat.reduceAdd] at hf34_2)
                        (try rw [show ((0 : Int)).toNat = 0 from rfl] at hx34_3)
                        (try simp only [Nat.reduceMul, Nat.zero_mul, Nat.zero_add, Nat.reduceAdd] at hx34_3)
                        (try rw [show ((0 : Int)).toNat = 0 from rfl] at hf34_3)
                        (try simp only [Nat.reduceMul, Nat.zero_mul, Nat.zero_add, Nat.reduceAdd] at hf34_3)
                        replace p34 := eq_true p34
                        replace q34 := eq_true q34
                        have HX36 := Aside0.mk (show Kd.R k34 34 wc w.heap.size (fun k_ => k_ ≠ gb138) (.slice (some ⟨go34, 0, none⟩) y134.length co24) y134 from (by (with_reducible repeat (first | apply Kd.R_alloc | apply Kd.R_drewN | apply Kd.R_drew)); exact HO_16.out))
                        obtain ⟨ce36, hcl36, hM36, hcc36, hfr36⟩ := Kd.R_elem HX36.out z34 (0 : Int) (by omega) (by have h_ : (0 : Int) < ((y134.length : Int) : Int) := of_decide_eq_true (by first | (with_reducible assumption) | assumption); first | exact h_ | (have e_ := (Kd.R_reads' HO_16.out).1; omega) | simpa using h_)
                        obtain rfl := k34_openM hM36
                        have HP36 := Kd.R_seg HX36.out (0 : Int) (by omega) (by have h_ : (0 : Int) < ((y134.length : Int) : Int) := of_decide_eq_true (by first | (with_reducible assumption) | assumption); first | exact h_ | (have e_ := (Kd.R_reads' HO_16.out).1; omega) | simpa using h_) (seg := [.int .i64 x18_21]) (j := 2) hcl36 hcc36 (show 3 ≤ 4 from by decide) (x' := (⟨(rd_T34 y134 0).f0, (rd_T34 y134 0).f1, x18_21, (rd_T34 y134 0).f3⟩ : S34)) (k34_mkM _ _ _ (⟨(rd_T34 y134 0).f0, (rd_T34 y134 0).f1, x18_21, (rd_T34 y134 0).f3⟩ : S34) ) (fun _ hk => hk)
                        have hx36_2 := hcc36 2 _ rfl
                        (try simp only [show (k34).sz = 4 from rfl, Nat.mul_one, Nat.add_zero] at hx36_2)
                        (try rw [show ((0 : Int)).toNat = 0 from rfl] at hx36_2)
                        (try simp only [Nat.reduceMul, Nat.zero_mul, Nat.zero_add, Nat.reduceAdd] at hx36_2)
                        have hf36_2 := hfr36 2
                        (try simp only [show (k34).sz = 4 from rfl, Nat.mul_one, Nat.add_zero] at hf36_2)
                        (try rw [show ((0 : Int)).toNat = 0 from rfl] at hf36_2)
                        (try simp only [Nat.reduceMul, Nat.zero_mul, Nat.zero_add, Nat.reduceAdd] at hf36_2)
                        clear hcl36 hcc36 hfr36 hM36
                        go_wp2_with (first | ((with_reducible refine gate_store (t := 3) (p := 93) rfl ?_); (try (rw [drewN_self wc]; generalize hq_ : World.drewN wc _ = wc; have n0_ := Aside0.mk (Kd.R_at hq_ HO_16.out); have n1_ := Aside0.mk (blk_at hq_ BK138.out); have n2_ := Aside0.mk (below_at hq_ HB.out); clear hq_ HO_16 BK138 HB; have HO_16 := n0_; have BK138 := n1_; have HB := n2_; clear n0_ n1_ n2_; (try (have HX36 := Aside0.mk (show Kd.R k34 34 wc w.heap.size (fun k_ => k_ ≠ gb138) (.slice (some ⟨go34, 0, none⟩) y134.length co24) y134 from (by (with_reducible repeat (first | apply Kd.R_alloc | apply Kd.R_drewN | apply Kd.R_drew)); exact HO_16.out)))); (try (obtain ⟨ce36, hcl36, hM36, hcc36, hfr36⟩ := Kd.R_elem HX36.out z34 (0 : Int) (by omega) (by have h_ : (0 : Int) < ((y134.length : Int) : Int) := of_decide_eq_true (by first | (with_reducible assumption) | assumption); first | exact h_ | (have e_ := (Kd.R_reads' HO_16.out).1; omega) | simpa using h_))); (try (obtain rfl := k34_openM hM36)); (try (have HP36 := Kd.R_seg HX36.out (0 : Int) (by omega) (by have h_ : (0 : Int) < ((y134.length : Int) : Int) := of_decide_eq_true (by first | (with_reducible assumption) | assumption); first | exact h_ | (have e_ := (Kd.R_reads' HO_16.out).1; omega) | simpa using h_) (seg := [.int .i64 x18_21]) (j := 2) hcl36 hcc36 (show 3 ≤ 4 from by decide) (x' := (⟨(rd_T34 y134 0).f0, (rd_T34 y134 0).f1, x18_21, (rd_T34 y134 0).f3⟩ : S34)) (k34_mkM _ _ _ (⟨(rd_T34 y134 0).f0, (rd_T34 y134 0).f1, x18_21, (rd_T34 y134 0).f3⟩ : S34) ) (fun _ hk => hk))); (try (have hx36_2 := hcc36 2 _ rfl)); (try (try simp only [show (k34).sz = 4 from rfl, Nat.mul_one, Nat.add_zero] at hx36_2)); (try (try rw [show ((0 : Int)).toNat = 0 from rfl] at hx36_2)); (try (try simp only [Nat.reduceMul, Nat.zero_mul, Nat.zero_add, Nat.reduceAdd] at hx36_2)); (try (have hf36_2 := hfr36 2)); (try (try simp only [show (k34).sz = 4 from rfl, Nat.mul_one, Nat.add_zero] at hf36_2)); (try (try rw [show ((0 : Int)).toNat = 0 from rfl] at hf36_2)); (try (try simp only [Nat.reduceMul, Nat.zero_mul, Nat.zero_add, Nat.reduceAdd] at hf36_2)); (try (clear hcl36 hcc36 hfr36 hM36)))); refine store_event (t := 3) (p := 93) (v := ?vo_w37) (w1 := (wc.setCell ⟨go34, 2, none⟩ (.int .i64 x18_21))) ?hg ?ho ?hn ?hr ?_; (case ho => rfl); (case hg => rfl); (case hn => rfl); (case hr => first | (go_simp; done) | (go_simp; rfl)); intro w37 hw; have hg : wc.grownBy w37 (some go34) := (by rw [hw]; exact HP36.2); have hp_ : Kd.R k34 34 w37 w.heap.size (fun k_ => k_ ≠ gb138) (.slice (some ⟨go34, 0, none⟩) y134.length co24) y139 := (by rw [hw, Ny139.out]; exact HP36.1); clear HP36; have n0_ := Aside0.mk (hp_); have n1_ := Aside0.mk (blk_grown (g := gb138) (o := .cells #[.int .i64 ((rd_T34 y134 0).f0), .int .i64 ((rd_T34 y134 0).f1), .int .i64 ((rd_T34 y134 0).f2), .int .i64 ((rd_T34 y134 0).f3)] 34 (0, 0)) (by (with_reducible repeat (first | refine blk_drewN ?_ _ | refine blk_drew ?_ | refine blk_alloc ?_ _)); exact BK138.out) hg (Kd.R_away HO_16.out (fun _ hk => hk))); have n2_ := Aside0.mk ((by rw [hw]; exact below_set (HB.out) GB34.out : Below w.heap.size w w37)); clear HO_16; clear BK138; clear HB; have HO_16 := n0_; have BK138 := n1_; have HB := n2_; clear n0_ n1_ n2_; clear hg hw hp_; have hcz38_0 : w37.cell? ⟨gb138, 0, none⟩ = some (.int .i64 ((rd_T34 y134 0).f0)) := (blk_cell BK138.out 0).trans rfl; have hcz38_1 : w37.cell? ⟨gb138, 1, none⟩ = some (.int .i64 ((rd_T34 y134 0).f1)) := (blk_cell BK138.out 1).trans rfl; have hcz38_2 : w37.cell? ⟨gb138, 2, none⟩ = some (.int .i64 ((rd_T34 y134 0).f2)) := (blk_cell BK138.out 2).trans rfl; have hcz38_3 : w37.cell? ⟨gb138, 3, none⟩ = some (.int .i64 ((rd_T34 y134 0).f3)) := (blk_cell BK138.out 3).trans rfl; have hfz38_0 := blk_frozen BK138.out 0; have hfz38_1 := blk_frozen BK138.out 1; have hfz38_2 := blk_frozen BK138.out 2; have hfz38_3 := blk_frozen BK138.out 3) | ((with_reducible refine gate_builtin (b := .append) (xs := #[.tmp 94, .tmp 103]) rfl ?_); (try (refine gate_guard (by rfl) ?_; dsimp only)); at_builtin; refine Kd.R_append k34 (w0 := w) w.heap.size rfl (.tmp 94) (.tmp 103) 22 34 (.agg #[(.int .i64 0), (.int .i64 0), (.int .i64 0), (.int .i64 0)]) 32 rfl Try.underlying22 info34 rfl (by decide) (by omega) (.slice (some ⟨go34, 0, none⟩) y134.length co24) y139 (⟨((rd_T34 y134 0).f0), x18_21, ((rd_T34 y134 0).f2), ((rd_T34 y134 0).f3)⟩ : S34) [.int .i64 ((rd_T34 y134 0).f0), .int .i64 x18_21, .int .i64 ((rd_T34 y134 0).f2), .int .i64 ((rd_T34 y134 0).f3)] (fun k_ => k_ ≠ gb138) (fun _ => False) rfl rfl ?aP (fun _ hk => hk.elim) ?aF ?aO ?aB ?aS ?aL ?_; (case aP => exact k34_mkM _ _ _ (⟨((rd_T34 y134 0).f0), x18_21, ((rd_T34 y134 0).f2), ((rd_T34 y134 0).f3)⟩ : S34)); (case aB => exact (by repeat (first | (with_reducible first | exact HB.out | apply below_alloc | apply pw_below_drewN | apply below_drew1 | refine below_set ?_ GE138.out) | exact HB.out))); (case aF => exact (fun k_ hk => Kd.freshB (g := gb138) (o := .cells #[.int .i64 ((rd_T34 y134 0).f0), .int .i64 ((rd_T34 y134 0).f1), .int .i64 ((rd_T34 y134 0).f2), .int .i64 ((rd_T34 y134 0).f3)] 34 (0, 0)) (by (with_reducible repeat (first | refine blk_drewN ?_ _ | refine blk_drew ?_ | refine blk_alloc ?_ _)); exact BK138.out) k_ hk)); (case aO => exact (by (with_reducible repeat (first | apply Kd.R_alloc | apply Kd.R_drewN | apply Kd.R_drew)); exact HO_16.out)); (case aS => exact (below_size (by repeat (first | (with_reducible first | exact HB.out | apply below_alloc | apply pw_below_drewN | apply below_drew1 | refine below_set ?_ GE138.out) | exact HB.out)))); (case aL => have := LMc35.out; omega); intro v141 w39 ho hb hg hat; rw [← Ny140.out] at ho; have n0_ := Aside0.mk (blk_grown (g := gb138) (o := .cells #[.int .i64 ((rd_T34 y134 0).f0), .int .i64 ((rd_T34 y134 0).f1), .int .i64 ((rd_T34 y134 0).f2), .int .i64 ((rd_T34 y134 0).f3)] 34 (0, 0)) (by (with_reducible repeat (first | refine blk_drewN ?_ _ | refine blk_drew ?_ | refine blk_alloc ?_ _)); exact BK138.out) hg (Kd.R_away HO_16.out (fun _ hk => hk))); have n1_ := Aside0.mk (hb); have n2_ := Aside0.mk (ho); clear BK138; clear HB; clear HO_16; have BK138 := n0_; have HB := n1_; have HO142 := n2_; clear n0_ n1_ n2_; clear ho hb hg hat))
                        repeat (go_quiet (first | ((with_reducible refine gate_store (t := 3) (p := 93) rfl ?_); (try (rw [drewN_self wc]; generalize hq_ : World.drewN wc _ = wc; have n0_ := Aside0.mk (Kd.R_at hq_ HO_16.out); have n1_ := Aside0.mk (blk_at hq_ BK138.out); have n2_ := Aside0.mk (below_at hq_ HB.out); clear hq_ HO_16 BK138 HB; have HO_16 := n0_; have BK138 := n1_; have HB := n2_; clear n0_ n1_ n2_; (try (have HX36 := Aside0.mk (show Kd.R k34 34 wc w.heap.size (fun k_ => k_ ≠ gb138) (.slice (some ⟨go34, 0, none⟩) y134.length co24) y134 from (by (with_reducible repeat (first | apply Kd.R_alloc | apply Kd.R_drewN | apply Kd.R_drew)); exact HO_16.out)))); (try (obtain ⟨ce36, hcl36, hM36, hcc36, hfr36⟩ := Kd.R_elem HX36.out z34 (0 : Int) (by omega) (by have h_ : (0 : Int) < ((y134.length : Int) : Int) := of_decide_eq_true (by first | (with_reducible assumption) | assumption); first | exact h_ | (have e_ := (Kd.R_reads' HO_16.out).1; omega) | simpa using h_))); (try (obtain rfl := k34_openM hM36)); (try (have HP36 := Kd.R_seg HX36.out (0 : Int) (by omega) (by have h_ : (0 : Int) < ((y134.length : Int) : Int) := of_decide_eq_true (by first | (with_reducible assumption) | assumption); first | exact h_ | (have e_ := (Kd.R_reads' HO_16.out).1; omega) | simpa using h_) (seg := [.int .i64 x18_21]) (j := 2) hcl36 hcc36 (show 3 ≤ 4 from by decide) (x' := (⟨(rd_T34 y134 0).f0, (rd_T34 y134 0).f1, x18_21, (rd_T34 y134 0).f3⟩ : S34)) (k34_mkM _ _ _ (⟨(rd_T34 y134 0).f0, (rd_T34 y134 0).f1, x18_21, (rd_T34 y134 0).f3⟩ : S34) ) (fun _ hk => hk))); (try (have hx36_2 := hcc36 2 _ rfl)); (try (try simp only [show (k34).sz = 4 from rfl, Nat.mul_one, Nat.add_zero] at hx36_2)); (try (try rw [show ((0 : Int)).toNat = 0 from rfl] at hx36_2)); (try (try simp only [Nat.reduceMul, Nat.zero_mul, Nat.zero_add, Nat.reduceAdd] at hx36_2)); (try (have hf36_2 := hfr36 2)); (try (try simp only [show (k34).sz = 4 from rfl, Nat.mul_one, Nat.add_zero] at hf36_2)); (try (try rw [show ((0 : Int)).toNat = 0 from rfl] at hf36_2)); (try (try simp only [Nat.reduceMul, Nat.zero_mul, Nat.zero_add, Nat.reduceAdd] at hf36_2)); (try (clear hcl36 hcc36 hfr36 hM36)))); refine store_event (t := 3) (p := 93) (v := ?vo_w37) (w1 := (wc.setCell ⟨go34, 2, none⟩ (.int .i64 x18_21))) ?hg ?ho ?hn ?hr ?_; (case ho => rfl); (case hg => rfl); (case hn => rfl); (case hr => first | (go_simp; done) | (go_simp; rfl)); intro w37 hw; have hg : wc.grownBy w37 (some go34) := (by rw [hw]; exact HP36.2); have hp_ : Kd.R k34 34 w37 w.heap.size (fun k_ => k_ ≠ gb138) (.slice (some ⟨go34, 0, none⟩) y134.length co24) y139 := (by rw [hw, Ny139.out]; exact HP36.1); clear HP36; have n0_ := Aside0.mk (hp_); have n1_ := Aside0.mk (blk_grown (g := gb138) (o := .cells #[.int .i64 ((rd_T34 y134 0).f0), .int .i64 ((rd_T34 y134 0).f1), .int .i64 ((rd_T34 y134 0).f2), .int .i64 ((rd_T34 y134 0).f3)] 34 (0, 0)) (by (with_reducible repeat (first | refine blk_drewN ?_ _ | refine blk_drew ?_ | refine blk_alloc ?_ _)); exact BK138.out) hg (Kd.R_away HO_16.out (fun _ hk => hk))); have n2_ := Aside0.mk ((by rw [hw]; exact below_set (HB.out) GB34.out : Below w.heap.size w w37)); clear HO_16; clear BK138; clear HB; have HO_16 := n0_; have BK138 := n1_; have HB := n2_; clear n0_ n1_ n2_; clear hg hw hp_; have hcz38_0 : w37.cell? ⟨gb138, 0, none⟩ = some (.int .i64 ((rd_T34 y134 0).f0)) := (blk_cell BK138.out 0).trans rfl; have hcz38_1 : w37.cell? ⟨gb138, 1, none⟩ = some (.int .i64 ((rd_T34 y134 0).f1)) := (blk_cell BK138.out 1).trans rfl; have hcz38_2 : w37.cell? ⟨gb138, 2, none⟩ = some (.int .i64 ((rd_T34 y134 0).f2)) := (blk_cell BK138.out 2).trans rfl; have hcz38_3 : w37.cell? ⟨gb138, 3, none⟩ = some (.int .i64 ((rd_T34 y134 0).f3)) := (blk_cell BK138.out 3).trans rfl; have hfz38_0 := blk_frozen BK138.out 0; have hfz38_1 := blk_frozen BK138.out 1; have hfz38_2 := blk_frozen BK138.out 2; have hfz38_3 := blk_frozen BK138.out 3) | ((with_reducible refine gate_builtin (b := .append) (xs := #[.tmp 94, .tmp 103]) rfl ?_); (try (refine gate_guard (by rfl) ?_; dsimp only)); at_builtin; refine Kd.R_append k34 (w0 := w) w.heap.size rfl (.tmp 94) (.tmp 103) 22 34 (.agg #[(.int .i64 0), (.int .i64 0), (.int .i64 0), (.int .i64 0)]) 32 rfl Try.underlying22 info34 rfl (by decide) (by omega) (.slice (some ⟨go34, 0, none⟩) y134.length co24) y139 (⟨((rd_T34 y134 0).f0), x18_21, ((rd_T34 y134 0).f2), ((rd_T34 y134 0).f3)⟩ : S34) [.int .i64 ((rd_T34 y134 0).f0), .int .i64 x18_21, .int .i64 ((rd_T34 y134 0).f2), .int .i64 ((rd_T34 y134 0).f3)] (fun k_ => k_ ≠ gb138) (fun _ => False) rfl rfl ?aP (fun _ hk => hk.elim) ?aF ?aO ?aB ?aS ?aL ?_; (case aP => exact k34_mkM _ _ _ (⟨((rd_T34 y134 0).f0), x18_21, ((rd_T34 y134 0).f2), ((rd_T34 y134 0).f3)⟩ : S34)); (case aB => exact (by repeat (first | (with_reducible first | exact HB.out | apply below_alloc | apply pw_below_drewN | apply below_drew1 | refine below_set ?_ GE138.out) | exact HB.out))); (case aF => exact (fun k_ hk => Kd.freshB (g := gb138) (o := .cells #[.int .i64 ((rd_T34 y134 0).f0), .int .i64 ((rd_T34 y134 0).f1), .int .i64 ((rd_T34 y134 0).f2), .int .i64 ((rd_T34 y134 0).f3)] 34 (0, 0)) (by (with_reducible repeat (first | refine blk_drewN ?_ _ | refine blk_drew ?_ | refine blk_alloc ?_ _)); exact BK138.out) k_ hk)); (case aO => exact (by (with_reducible repeat (first | apply Kd.R_alloc | apply Kd.R_drewN | apply Kd.R_drew)); exact HO_16.out)); (case aS => exact (below_size (by repeat (first | (with_reducible first | exact HB.out | apply below_alloc | apply pw_below_drewN | apply below_drew1 | refine below_set ?_ GE138.out) | exact HB.out)))); (case aL => have := LMc35.out; omega); intro v141 w39 ho hb hg hat; rw [← Ny140.out] at ho; have n0_ := Aside0.mk (blk_grown (g := gb138) (o := .cells #[.int .i64 ((rd_T34 y134 0).f0), .int .i64 ((rd_T34 y134 0).f1), .int .i64 ((rd_T34 y134 0).f2), .int .i64 ((rd_T34 y134 0).f3)] 34 (0, 0)) (by (with_reducible repeat (first | refine blk_drewN ?_ _ | refine blk_drew ?_ | refine blk_alloc ?_ _)); exact BK138.out) hg (Kd.R_away HO_16.out (fun _ hk => hk))); have n1_ := Aside0.mk (hb); have n2_ := Aside0.mk (ho); clear BK138; clear HB; clear HO_16; have BK138 := n0_; have HB := n1_; have HO142 := n2_; clear n0_ n1_ n2_; clear ho hb hg hat)); try go_wp2_with (first | ((with_reducible refine gate_store (t := 3) (p := 93) rfl ?_); (try (rw [drewN_self wc]; generalize hq_ : World.drewN wc _ = wc; have n0_ := Aside0.mk (Kd.R_at hq_ HO_16.out); have n1_ := Aside0.mk (blk_at hq_ BK138.out); have n2_ := Aside0.mk (below_at hq_ HB.out); clear hq_ HO_16 BK138 HB; have HO_16 := n0_; have BK138 := n1_; have HB := n2_; clear n0_ n1_ n2_; (try (have HX36 := Aside0.mk (show Kd.R k34 34 wc w.heap.size (fun k_ => k_ ≠ gb138) (.slice (some ⟨go34, 0, none⟩) y134.length co24) y134 from (by (with_reducible repeat (first | apply Kd.R_alloc | apply Kd.R_drewN | apply Kd.R_drew)); exact HO_16.out)))); (try (obtain ⟨ce36, hcl36, hM36, hcc36, hfr36⟩ := Kd.R_elem HX36.out z34 (0 : Int) (by omega) (by have h_ : (0 : Int) < ((y134.length : Int) : Int) := of_decide_eq_true (by first | (with_reducible assumption) | assumption); first | exact h_ | (have e_ := (Kd.R_reads' HO_16.out).1; omega) | simpa using h_))); (try (obtain rfl := k34_openM hM36)); (try (have HP36 := Kd.R_seg HX36.out (0 : Int) (by omega) (by have h_ : (0 : Int) < ((y134.length : Int) : Int) := of_decide_eq_true (by first | (with_reducible assumption) | assumption); first | exact h_ | (have e_ := (Kd.R_reads' HO_16.out).1; omega) | simpa using h_) (seg := [.int .i64 x18_21]) (j := 2) hcl36 hcc36 (show 3 ≤ 4 from by decide) (x' := (⟨(rd_T34 y134 0).f0, (rd_T34 y134 0).f1, x18_21, (rd_T34 y134 0).f3⟩ : S34)) (k34_mkM _ _ _ (⟨(rd_T34 y134 0).f0, (rd_T34 y134 0).f1, x18_21, (rd_T34 y134 0).f3⟩ : S34) ) (fun _ hk => hk))); (try (have hx36_2 := hcc36 2 _ rfl)); (try (try simp only [show (k34).sz = 4 from rfl, Nat.mul_one, Nat.add_zero] at hx36_2)); (try (try rw [show ((0 : Int)).toNat = 0 from rfl] at hx36_2)); (try (try simp only [Nat.reduceMul, Nat.zero_mul, Nat.zero_add, Nat.reduceAdd] at hx36_2)); (try (have hf36_2 := hfr36 2)); (try (try simp only [show (k34).sz = 4 from rfl, Nat.mul_one, Nat.add_zero] at hf36_2)); (try (try rw [show ((0 : Int)).toNat = 0 from rfl] at hf36_2)); (try (try simp only [Nat.reduceMul, Nat.zero_mul, Nat.zero_add, Nat.reduceAdd] at hf36_2)); (try (clear hcl36 hcc36 hfr36 hM36)))); refine store_event (t := 3) (p := 93) (v := ?vo_w37) (w1 := (wc.setCell ⟨go34, 2, none⟩ (.int .i64 x18_21))) ?hg ?ho ?hn ?hr ?_; (case ho => rfl); (case hg => rfl); (case hn => rfl); (case hr => first | (go_simp; done) | (go_simp; rfl)); intro w37 hw; have hg : wc.grownBy w37 (some go34) := (by rw [hw]; exact HP36.2); have hp_ : Kd.R k34 34 w37 w.heap.size (fun k_ => k_ ≠ gb138) (.slice (some ⟨go34, 0, none⟩) y134.length co24) y139 := (by rw [hw, Ny139.out]; exact HP36.1); clear HP36; have n0_ := Aside0.mk (hp_); have n1_ := Aside0.mk (blk_grown (g := gb138) (o := .cells #[.int .i64 ((rd_T34 y134 0).f0), .int .i64 ((rd_T34 y134 0).f1), .int .i64 ((rd_T34 y134 0).f2), .int .i64 ((rd_T34 y134 0).f3)] 34 (0, 0)) (by (with_reducible repeat (first | refine blk_drewN ?_ _ | refine blk_drew ?_ | refine blk_alloc ?_ _)); exact BK138.out) hg (Kd.R_away HO_16.out (fun _ hk => hk))); have n2_ := Aside0.mk ((by rw [hw]; exact below_set (HB.out) GB34.out : Below w.heap.size w w37)); clear HO_16; clear BK138; clear HB; have HO_16 := n0_; have BK138 := n1_; have HB := n2_; clear n0_ n1_ n2_; clear hg hw hp_; have hcz38_0 : w37.cell? ⟨gb138, 0, none⟩ = some (.int .i64 ((rd_T34 y134 0).f0)) := (blk_cell BK138.out 0).trans rfl; have hcz38_1 : w37.cell? ⟨gb138, 1, none⟩ = some (.int .i64 ((rd_T34 y134 0).f1)) := (blk_cell BK138.out 1).trans rfl; have hcz38_2 : w37.cell? ⟨gb138, 2, none⟩ = some (.int .i64 ((rd_T34 y134 0).f2)) := (blk_cell BK138.out 2).trans rfl; have hcz38_3 : w37.cell? ⟨gb138, 3, none⟩ = some (.int .i64 ((rd_T34 y134 0).f3)) := (blk_cell BK138.out 3).trans rfl; have hfz38_0 := blk_frozen BK138.out 0; have hfz38_1 := blk_frozen BK138.out 1; have hfz38_2 := blk_frozen BK138.out 2; have hfz38_3 := blk_frozen BK138.out 3) | ((with_reducible refine gate_builtin (b := .append) (xs := #[.tmp 94, .tmp 103]) rfl ?_); (try (refine gate_guard (by rfl) ?_; dsimp only)); at_builtin; refine Kd.R_append k34 (w0 := w) w.heap.size rfl (.tmp 94) (.tmp 103) 22 34 (.agg #[(.int .i64 0), (.int .i64 0), (.int .i64 0), (.int .i64 0)]) 32 rfl Try.underlying22 info34 rfl (by decide) (by omega) (.slice (some ⟨go34, 0, none⟩) y134.length co24) y139 (⟨((rd_T34 y134 0).f0), x18_21, ((rd_T34 y134 0).f2), ((rd_T34 y134 0).f3)⟩ : S34) [.int .i64 ((rd_T34 y134 0).f0), .int .i64 x18_21, .int .i64 ((rd_T34 y134 0).f2), .int .i64 ((rd_T34 y134 0).f3)] (fun k_ => k_ ≠ gb138) (fun _ => False) rfl rfl ?aP (fun _ hk => hk.elim) ?aF ?aO ?aB ?aS ?aL ?_; (case aP => exact k34_mkM _ _ _ (⟨((rd_T34 y134 0).f0), x18_21, ((rd_T34 y134 0).f2), ((rd_T34 y134 0).f3)⟩ : S34)); (case aB => exact (by repeat (first | (with_reducible first | exact HB.out | apply below_alloc | apply pw_below_drewN | apply below_drew1 | refine below_set ?_ GE138.out) | exact HB.out))); (case aF => exact (fun k_ hk => Kd.freshB (g := gb138) (o := .cells #[.int .i64 ((rd_T34 y134 0).f0), .int .i64 ((rd_T34 y134 0).f1), .int .i64 ((rd_T34 y134 0).f2), .int .i64 ((rd_T34 y134 0).f3)] 34 (0, 0)) (by (with_reducible repeat (first | refine blk_drewN ?_ _ | refine blk_drew ?_ | refine blk_alloc ?_ _)); exact BK138.out) k_ hk)); (case aO => exact (by (with_reducible repeat (first | apply Kd.R_alloc | apply Kd.R_drewN | apply Kd.R_drew)); exact HO_16.out)); (case aS => exact (below_size (by repeat (first | (with_reducible first | exact HB.out | apply below_alloc | apply pw_below_drewN | apply below_drew1 | refine below_set ?_ GE138.out) | exact HB.out)))); (case aL => have := LMc35.out; omega); intro v141 w39 ho hb hg hat; rw [← Ny140.out] at ho; have n0_ := Aside0.mk (blk_grown (g := gb138) (o := .cells #[.int .i64 ((rd_T34 y134 0).f0), .int .i64 ((rd_T34 y134 0).f1), .int .i64 ((rd_T34 y134 0).f2), .int .i64 ((rd_T34 y134 0).f3)] 34 (0, 0)) (by (with_reducible repeat (first | refine blk_drewN ?_ _ | refine blk_drew ?_ | refine blk_alloc ?_ _)); exact BK138.out) hg (Kd.R_away HO_16.out (fun _ hk => hk))); have n1_ := Aside0.mk (hb); have n2_ := Aside0.mk (ho); clear BK138; clear HB; clear HO_16; have BK138 := n0_; have HB := n1_; have HO142 := n2_; clear n0_ n1_ n2_; clear ho hb hg hat)))
                        go_meet
                        case rel => exact ⟨_, (y140), (((rd_T34 y134 0).f2)), H', ⟨by have := HJ9.out; have := HJ21.out; first | omega | exact Nat.le_refl _⟩, ⟨by (with_reducible repeat (first | apply Kd.R_alloc | apply Kd.R_drewN | apply Kd.R_drew)); exact HO142.out⟩, ⟨by (with_reducible repeat (first | refine blk_drewN ?_ _ | refine blk_drew ?_ | refine blk_alloc ?_ _)); exact BK138.out⟩, ⟨by repeat (first | (with_reducible first | exact HB.out | apply below_alloc | apply pw_below_drewN | apply below_drew1 | refine below_set ?_ GE138.out) | exact HB.out)⟩⟩
                      · rw [if_neg c35] at H
                        exact absurd H (by simp)
                    · rw [if_neg c33] at H
                      exact absurd H (by simp)
                  · rw [if_neg c32] at H
                    have c32b0 : decide (x18_21 < ((rd_T34 y134 0).f2)) = false := decide_eq_false c32
                    clear c32
                    (first | rw [c32b0] | (simp only [i64_w, i32_w]; rw [c32b0]) | skip)
                    have H' := Aside0.mk H
                    clear H
                    go_wp2
                    repeat (go_quiet (fail); try go_wp2)
                    go_meet
                    case rel => exact ⟨_, (y134), (((rd_T34 y134 0).f2)), H', ⟨by have := HJ9.out; have := HJ21.out; first | omega | exact Nat.le_refl _⟩, ⟨by (with_reducible repeat (first | apply Kd.R_alloc | apply Kd.R_drewN | apply Kd.R_drew)); exact HO_16.out⟩, ⟨by (with_reducible repeat (first | refine blk_drewN ?_ _ | refine blk_drew ?_ | refine blk_alloc ?_ _)); exact BK138.out⟩, ⟨by repeat (first | (with_reducible first | exact HB.out | apply below_alloc | apply pw_below_drewN | apply below_drew1 | refine below_set ?_ GE138.out) | exact HB.out)⟩⟩
                case rest =>
                  clear HC30
                  try clear c1
                  try clear p1
                  try clear q1
                  try clear hx1
                  try clear qi1
                  try clear c2
                  try clear p2
                  try clear c3
                  try clear p3
                  try clear q3
                  try clear hx3
                  try clear qi3
                  try clear c6
                  try clear p6
                  try clear p13
                  try clear q13
                  try clear hx13
                  try clear qi13
                  try clear c14
                  try clear c15
                  try clear c15b0
                  try clear c15b1
                  try clear c16
                  try clear c16b0
                  try clear c16b1
                  try clear c17
                  try clear c17b0
                  try clear c17b1
                  try clear c17b2
                  try clear c18
                  try clear c19
                  try clear c20
                  try clear c21
                  try clear c21b0
                  try clear c21b1
                  try clear c27
                  try clear c27b0
                  try clear c28
                  try clear c28b0
                  try clear c28b1
                  try clear c32
                  try clear c32b0
                  try clear c33
                  try clear c33b0
                  try clear c33b1
                  try clear c34
                  try clear p34
                  try clear q34
                  try clear hx34
                  try clear qi34
                  try clear hf34
                  try clear c35
                  try clear c36
                  try clear hx36
                  try clear hf36
                  try clear hcz26_0
                  try clear hcz26_1
                  try clear hcz26_2
                  try clear hcz26_3
                  try clear hcz29_0
                  try clear hcz29_1
                  try clear hcz29_2
                  try clear hcz29_3
                  try clear hcz31_0
                  try clear hcz31_1
                  try clear hcz31_2
                  try clear hcz31_3
                  try clear hcz38_0
                  try clear hcz38_1
                  try clear hcz38_2
                  try clear hcz38_3
                  try clear hfz26_0
                  try clear hfz26_1
                  try clear hfz26_2
                  try clear hfz26_3
                  try clear hfz29_0
                  try clear hfz29_1
                  try clear hfz29_2
                  try clear hfz29_3
                  try clear hfz31_0
                  try clear hfz31_1
                  try clear hfz31_2
                  try clear hfz31_3
                  try clear hfz38_0
                  try clear hfz38_1
                  try clear hfz38_2
                  try clear hfz38_3
                  try clear hx137_0
                  try clear hx137_1
                  try clear hx137_2
                  try clear hx137_3
                  try clear hx34_0
                  try clear hx34_1
                  try clear hx34_2
                  try clear hx34_3
                  try clear hx36_2
                  try clear p1
                  try clear p13
                  try clear p137
                  try clear p2
                  try clear p34
                  try clear p6
                  try clear q1
                  try clear q13
                  try clear q137
                  try clear q34
                  obtain ⟨kq, x16_29, x139002_29, HA, HJ29, HO_16, BK138, HB⟩ := hcut
                  cases kq with
                  | zero => exact absurd HA.out (by simp [lanternlaw09_PlanOrder.j2])
                  | succ kj29 =>
                    have H := HA.out
                    clear HA
                    simp only [lanternlaw09_PlanOrder.j2] at H
                    have H' := Aside0.mk H
                    clear H
                    go_wp2
                    repeat (go_quiet (fail); try go_wp2)
                    go_loopg [16, 19, 20] kj29 (fun kq v16 v19 v20 w' => ∃ (x16_4 : List (S34)) (x19_4 : List (S34)) (x20_4 : Int), v20 = .int .i64 x20_4 ∧ Aside0 (lanternlaw09_PlanOrder.l0 kq l0 l1 a3 a4 a5 x16_4 x19_4 x20_4 = some r) ∧ Aside0 (kq ≤ kj29) ∧ Aside0 (Kd.R k34 34 w' w.heap.size (fun k_ => some k_ ≠ (v19 : Value).ownBlock ∧ k_ ≠ gb138) v16 x16_4) ∧ Aside0 (Kd.R k34 34 w' w.heap.size (fun k_ => some k_ ≠ (v16 : Value).ownBlock ∧ k_ ≠ gb138) v19 x19_4) ∧ Aside0 (w'.heap[gb138]? = some (.cells #[.int .i64 ((rd_T34 y134 0).f0), .int .i64 ((rd_T34 y134 0).f1), .int .i64 x139002_29, .int .i64 ((rd_T34 y134 0).f3)] 34 (0, 0))) ∧ Aside0 (Below w.heap.size w w'))
                    case atStart => exact ⟨(x16_29), (([] : List (S34))), (0), (by first | rfl | (simp; done) | (simp [*]; done)), H', ⟨Nat.le_refl _⟩, ⟨by (with_reducible repeat (first | apply Kd.R_alloc | apply Kd.R_drewN | apply Kd.R_drew)); exact Kd.R_mono HO_16.out (fun _ hk => ⟨(by simp [Value.ownBlock]), hk⟩)⟩, ⟨by first | exact Kd.R_nil _ _ _ _ _ | exact Kd.N_nil _ _ _ _ _ | exact Kd.V_nil _ _ _ _ _ | exact Kd.Q_nil _ _ _ _ _ | exact Kd.S_nil _ _ _ _ _⟩, ⟨by (with_reducible repeat (first | refine blk_drewN ?_ _ | refine blk_drew ?_ | refine blk_alloc ?_ _)); exact BK138.out⟩, ⟨by repeat (first | (with_reducible first | exact HB.out | apply below_alloc | apply pw_below_drewN | apply below_drew1 | refine below_set ?_ GE138.out) | exact HB.out)⟩⟩
                    case round =>
                      clear H'
                      try clear c1
                      try clear p1
                      try clear q1
                      try clear hx1
                      try clear qi1
                      try clear c2
                      try clear p2
                      try clear c3
                      try clear p3
                      try clear q3
                      try clear hx3
                      try clear qi3
                      try clear c6
                      try clear p6
                      try clear p13
                      try clear q13
                      try clear hx13
                      try clear qi13
                      try clear c14
                      try clear c15
                      try clear c15b0
                      try clear c15b1
                      try clear c16
                      try clear c16b0
                      try clear c16b1
                      try clear c17
                      try clear c17b0
                      try clear c17b1
                      try clear c17b2
                      try clear c18
                      try clear c19
                      try clear c20
                      try clear c21
                      try clear c21b0
                      try clear c21b1
                      try clear c27
                      try clear c27b0
                      try clear c28
                      try clear c28b0
                      try clear c28b1
                      try clear c32
                      try clear c32b0
                      try clear c33
                      try clear c33b0
                      try clear c33b1
                      try clear c34
                      try clear p34
                      try clear q34
                      try clear hx34
                      try clear qi34
                      try clear hf34
                      try clear c35
                      try clear c36
                      try clear hx36
                      try clear hf36
                      try clear hcz26_0
                      try clear hcz26_1
                      try clear hcz26_2
                      try clear hcz26_3
                      try clear hcz29_0
                      try clear hcz29_1
                      try clear hcz29_2
                      try clear hcz29_3
                      try clear hcz31_0
                      try clear hcz31_1
                      try clear hcz31_2
                      try clear hcz31_3
                      try clear hcz38_0
                      try clear hcz38_1
                      try clear hcz38_2
                      try clear hcz38_3
                      try clear hfz26_0
                      try clear hfz26_1
                      try clear hfz26_2
                      try clear hfz26_3
                      try clear hfz29_0
                      try clear hfz29_1
                      try clear hfz29_2
                      try clear hfz29_3
                      try clear hfz31_0
                      try clear hfz31_1
                      try clear hfz31_2
                      try clear hfz31_3
                      try clear hfz38_0
                      try clear hfz38_1
                      try clear hfz38_2
                      try clear hfz38_3
                      try clear hx137_0
                      try clear hx137_1
                      try clear hx137_2
                      try clear hx137_3
                      try clear hx34_0
                      try clear hx34_1
                      try clear hx34_2
                      try clear hx34_3
                      try clear hx36_2
                      try clear p1
                      try clear p13
                      try clear p137
                      try clear p2
                      try clear p3
                      try clear p34
                      try clear p6
                      try clear q1
                      try clear q13
                      try clear q137
                      try clear q3
                      try clear q34
                      obtain ⟨x16_4, x19_4, x20_4, rfl, HA, HK4, HO_16, HO_19, BK138, HB⟩ := hrel
                      cases gk with
                      | zero => exact absurd HA.out (by simp [lanternlaw09_PlanOrder.l0])
                      | succ k4 =>
                        have H := HA.out
                        clear HA
                        simp only [lanternlaw09_PlanOrder.l0] at H
                        by_cases c40 : (x16_4.length : Int) > 0
                        · rw [if_pos c40] at H
                          have c40b0 : decide (0 < (x16_4.length : Int)) = true := decide_eq_true c40
                          have c40b1 : decide (0 < x16_4.length) = true := decide_eq_true (by omega)
                          clear c40
                          by_cases c41 : x20_4 < (l1.length : Int)
                          · rw [if_pos c41] at H
                            have c41b0 : decide (x20_4 < (l1.length : Int)) = true := decide_eq_true c41
                            clear c41
                            by_cases c42 : 0 ≤ x20_4
                            · rw [if_pos c42] at H
                              have c42b0 : decide (0 ≤ x20_4) = true := decide_eq_true c42
                              clear c42
                              by_cases c43 : (rd l1 x20_4) ≥ 0
                              · rw [if_pos c43] at H
                                have c43b0 : decide (0 ≤ (rd l1 x20_4)) = true := decide_eq_true c43
                                clear c43
                                by_cases c44 : (x16_4.length : Int) = 0
                                · rw [if_pos c44] at H
                                  exact absurd H (by simp)
                                · rw [if_neg c44] at H
                                  have c44b0 : ((x16_4.length : Int) == 0) = false := beq_eq_false_iff_ne.mpr c44
                                  have c44b1 : ((x16_4.length : Int) != 0) = true := bne_iff_ne.mpr c44
                                  have c44b2 : ¬ (x16_4 = []) := fun h_ => c44 (by rw [h_]; rfl)
                                  obtain ⟨ji45, hji45⟩ : ∃ j_ : Int, (Int.tmod (rd l1 x20_4) (x16_4.length : Int)) = j_ := ⟨_, rfl⟩
                                  replace H : (if 0 ≤ (ji45) then (if (ji45) < (x16_4.length : Int) then (if x19_4.length < 4398046511104 then (if (ji45) ≤ (x16_4.length : Int) then ((some (x16_4.take ((ji45) : Int).toNat : List (S34))).bind fun y149 => (if ([] : List (S34)).length + y149.length < 4398046511104 then ((some (([] : List (S34)) ++ y149 : List (S34))).bind fun y153 => (if 0 ≤ (wrap64 ((ji45) + 1)) then (if (wrap64 ((ji45) + 1)) ≤ (x16_4.length : Int) then ((some (x16_4.drop ((wrap64 ((ji45) + 1)) : Int).toNat : List (S34))).bind fun y156 => (if y153.length + y156.length < 4398046511104 then (lanternlaw09_PlanOrder.l0 k4 l0 l1 a3 a4 a5 (y153 ++ y156) (x19_4 ++ [(⟨(rd_T34 x16_4 (ji45)).f0, (rd_T34 x16_4 (ji45)).f1, (rd_T34 x16_4 (ji45)).f2, (rd_T34 x16_4 (ji45)).f3⟩ : S34)]) (wrap64 (x20_4 + 1))) else (none))) else (none)) else (none))) else (none))) else (none)) else (none)) else (none)) else (none)) = some r := by first | (rw [hji45] at H; exact H) | (simp only [hji45] at H ⊢; exact H)
                                  by_cases c46 : 0 ≤ (ji45)
                                  · rw [if_pos c46] at H
                                    have c46b0 : decide (0 ≤ (ji45)) = true := decide_eq_true c46
                                    clear c46
                                    by_cases c47 : (ji45) < (x16_4.length : Int)
                                    · rw [if_pos c47] at H
                                      have c47b0 : decide ((ji45) < (x16_4.length : Int)) = true := decide_eq_true c47
                                      clear c47
                                      by_cases c48 : x19_4.length < 4398046511104
                                      · rw [if_pos c48] at H
                                        have LMc48 := Aside0.mk c48
                                        clear c48
                                        obtain ⟨y146, hy146⟩ : ∃ y_ : List (S34), y_ = (x19_4 ++ [(⟨(rd_T34 x16_4 (ji45)).f0, (rd_T34 x16_4 (ji45)).f1, (rd_T34 x16_4 (ji45)).f2, (rd_T34 x16_4 (ji45)).f3⟩ : S34)]) := ⟨_, rfl⟩
                                        replace H : (if (ji45) ≤ (x16_4.length : Int) then ((some (x16_4.take ((ji45) : Int).toNat : List (S34))).bind fun y149 => (if ([] : List (S34)).length + y149.length < 4398046511104 then ((some (([] : List (S34)) ++ y149 : List (S34))).bind fun y153 => (if 0 ≤ (wrap64 ((ji45) + 1)) then (if (wrap64 ((ji45) + 1)) ≤ (x16_4.length : Int) then ((some (x16_4.drop ((wrap64 ((ji45) + 1)) : Int).toNat : List (S34))).bind fun y156 => (if y153.length + y156.length < 4398046511104 then (lanternlaw09_PlanOrder.l0 k4 l0 l1 a3 a4 a5 (y153 ++ y156) y146 (wrap64 (x20_4 + 1))) else (none))) else (none)) else (none))) else (none))) else (none)) = some r := by first | (rw [hy146]; with_reducible exact H) | (have H2_ := (Option.bind_some _ _).symm.trans H; rw [hy146]; with_reducible exact H2_) | (have H2_ := (Option.bind_some _ _).symm.trans H; with_reducible exact H2_) | with_reducible exact H | (rw [hy146]; exact H) | exact H
                                        have Ny146 := Aside0.mk hy146
                                        clear hy146
                                        have c49b0 := eq_true (of_decide_eq_true (by first | (with_reducible assumption) | assumption) : 0 ≤ (ji45))
                                        by_cases c50 : (ji45) ≤ (x16_4.length : Int)
                                        · rw [if_pos c50] at H
                                          have c50b0 := eq_true c50
                                          have c50b1 : decide ((ji45) ≤ (x16_4.length : Int)) = true := decide_eq_true c50
                                          clear c50
                                          obtain ⟨y149, hy149⟩ : ∃ y_ : List (S34), y_ = (x16_4.take ((ji45) : Int).toNat) := ⟨_, rfl⟩
                                          replace H : (if ([] : List (S34)).length + y149.length < 4398046511104 then ((some (([] : List (S34)) ++ y149 : List (S34))).bind fun y153 => (if 0 ≤ (wrap64 ((ji45) + 1)) then (if (wrap64 ((ji45) + 1)) ≤ (x16_4.length : Int) then ((some (x16_4.drop ((wrap64 ((ji45) + 1)) : Int).toNat : List (S34))).bind fun y156 => (if y153.length + y156.length < 4398046511104 then (lanternlaw09_PlanOrder.l0 k4 l0 l1 a3 a4 a5 (y153 ++ y156) y146 (wrap64 (x20_4 + 1))) else (none))) else (none)) else (none))) else (none)) = some r := by first | (rw [hy149]; with_reducible exact H) | (have H2_ := (Option.bind_some _ _).symm.trans H; rw [hy149]; with_reducible exact H2_) | (have H2_ := (Option.bind_some _ _).symm.trans H; with_reducible exact H2_) | with_reducible exact H | (rw [hy149]; exact H) | exact H
                                          have Ny149 := Aside0.mk hy149
                                          clear hy149
                                          by_cases c51 : ([] : List (S34)).length + y149.length < 4398046511104
                                          · rw [if_pos c51] at H
                                            have LMc51 := Aside0.mk c51
                                            clear c51
                                            obtain ⟨y153, hy153⟩ : ∃ y_ : List (S34), y_ = (([] : List (S34)) ++ y149) := ⟨_, rfl⟩
                                            replace H : (if 0 ≤ (wrap64 ((ji45) + 1)) then (if (wrap64 ((ji45) + 1)) ≤ (x16_4.length : Int) then ((some (x16_4.drop ((wrap64 ((ji45) + 1)) : Int).toNat : List (S34))).bind fun y156 => (if y153.length + y156.length < 4398046511104 then (lanternlaw09_PlanOrder.l0 k4 l0 l1 a3 a4 a5 (y153 ++ y156) y146 (wrap64 (x20_4 + 1))) else (none))) else (none)) else (none)) = some r := by first | (rw [hy153]; with_reducible exact H) | (have H2_ := (Option.bind_some _ _).symm.trans H; rw [hy153]; with_reducible exact H2_) | (have H2_ := (Option.bind_some _ _).symm.trans H; with_reducible exact H2_) | with_reducible exact H | (rw [hy153]; exact H) | exact H
                                            have Ny153 := Aside0.mk hy153
                                            clear hy153
                                            obtain ⟨ji52, hji52⟩ : ∃ j_ : Int, (wrap64 ((ji45) + 1)) = j_ := ⟨_, rfl⟩
                                            replace H : (if 0 ≤ (ji52) then (if (ji52) ≤ (x16_4.length : Int) then ((some (x16_4.drop ((ji52) : Int).toNat : List (S34))).bind fun y156 => (if y153.length + y156.length < 4398046511104 then (lanternlaw09_PlanOrder.l0 k4 l0 l1 a3 a4 a5 (y153 ++ y156) y146 (wrap64 (x20_4 + 1))) else (none))) else (none)) else (none)) = some r := by first | (rw [hji52] at H; exact H) | (simp only [hji52] at H ⊢; exact H)
                                            have hji52w : (IntKind.i64.wrap ((ji45) + 1)) = ji52 := (i64_w _).trans hji52
                                            by_cases c53 : 0 ≤ (ji52)
                                            · rw [if_pos c53] at H
                                              have c53b0 := eq_true c53
                                              have c53b1 : decide (0 ≤ (ji52)) = true := decide_eq_true c53
                                              clear c53
                                              by_cases c54 : (ji52) ≤ (x16_4.length : Int)
                                              · rw [if_pos c54] at H
                                                have c54b0 := eq_true c54
                                                have c54b1 : decide ((ji52) ≤ (x16_4.length : Int)) = true := decide_eq_true c54
                                                clear c54
                                                obtain ⟨y156, hy156⟩ : ∃ y_ : List (S34), y_ = (x16_4.drop ((ji52) : Int).toNat) := ⟨_, rfl⟩
                                                replace H : (if y153.length + y156.length < 4398046511104 then (lanternlaw09_PlanOrder.l0 k4 l0 l1 a3 a4 a5 (y153 ++ y156) y146 (wrap64 (x20_4 + 1))) else (none)) = some r := by first | (rw [hy156]; with_reducible exact H) | (have H2_ := (Option.bind_some _ _).symm.trans H; rw [hy156]; with_reducible exact H2_) | (have H2_ := (Option.bind_some _ _).symm.trans H; with_reducible exact H2_) | with_reducible exact H | (rw [hy156]; exact H) | exact H
                                                have Ny156 := Aside0.mk hy156
                                                clear hy156
                                                by_cases c55 : y153.length + y156.length < 4398046511104
                                                · rw [if_pos c55] at H
                                                  have LMc55 := Aside0.mk c55
                                                  clear c55
                                                  obtain ⟨y160, hy160⟩ : ∃ y_ : List (S34), y_ = (y153 ++ y156) := ⟨_, rfl⟩
                                                  replace H : (lanternlaw09_PlanOrder.l0 k4 l0 l1 a3 a4 a5 y160 y146 (wrap64 (x20_4 + 1))) = some r := by first | (rw [hy160]; with_reducible exact H) | (have H2_ := (Option.bind_some _ _).symm.trans H; rw [hy160]; with_reducible exact H2_) | (have H2_ := (Option.bind_some _ _).symm.trans H; with_reducible exact H2_) | with_reducible exact H | (rw [hy160]; exact H) | exact H
                                                  have Ny160 := Aside0.mk hy160
                                                  clear hy160
                                                  have H' := Aside0.mk H
                                                  clear H
                                                  obtain ⟨Ao56, co56, eo56⟩ := Kd.R_slice HO_16.out
                                                  subst eo56
                                                  have p143 : 0 ≤ (x20_4 : Int) := of_decide_eq_true (by first | (with_reducible assumption) | assumption)
                                                  have q143 : x20_4 < (l1.length : Int) := of_decide_eq_true (by first | (with_reducible assumption) | assumption)
                                                  obtain ⟨ad143, e143, hx143_0⟩ := Kd.at_int HR1.out x20_4 p143 q143
                                                  cases e143
                                                  replace hx143_0 := (HB.out.cell (World.block_lt_of_cell? w _ hx143_0)).trans hx143_0
                                                  replace p143 := eq_true p143
                                                  replace q143 := eq_true q143
                                                  have p144 : 0 ≤ (x20_4 : Int) := of_decide_eq_true (by first | (with_reducible assumption) | assumption)
                                                  have q144 : x20_4 < (l1.length : Int) := of_decide_eq_true (by first | (with_reducible assumption) | assumption)
                                                  obtain ⟨ad144, e144, hx144_0⟩ := Kd.at_int HR1.out x20_4 p144 q144
                                                  obtain rfl : ad143 = ad144 := (by injection e144)
                                                  replace hx144_0 := (HB.out.cell (World.block_lt_of_cell? w _ hx144_0)).trans hx144_0
                                                  replace p144 := eq_true p144
                                                  replace q144 := eq_true q144
                                                  have p145 : 0 ≤ ((ji45) : Int) := of_decide_eq_true (by first | (with_reducible assumption) | assumption)
                                                  have q145 : (ji45) < (x16_4.length : Int) := of_decide_eq_true (by first | (with_reducible assumption) | assumption)
                                                  obtain ⟨ad145, e145, hx145_0, hx145_1, hx145_2, hx145_3⟩ := at_T34 (Kd.R_reads' HO_16.out).2.2 (ji45) p145 q145
                                                  cases e145
                                                  replace p145 := eq_true p145
                                                  replace q145 := eq_true q145
                                                  go_wp2_with (first | ((with_reducible refine gate_builtin (b := .append) (xs := #[.tmp 128, .tmp 133]) rfl ?_); (try (refine gate_guard (by rfl) ?_; dsimp only)); at_builtin; refine Kd.R_append k34 (w0 := w) w.heap.size rfl (.tmp 128) (.tmp 133) 22 34 (.agg #[(.int .i64 0), (.int .i64 0), (.int .i64 0), (.int .i64 0)]) 32 rfl Try.underlying22 info34 rfl (by decide) (by omega) u19 x19_4 (⟨(rd_T34 x16_4 (ji45)).f0, (rd_T34 x16_4 (ji45)).f1, (rd_T34 x16_4 (ji45)).f2, (rd_T34 x16_4 (ji45)).f3⟩ : S34) [.int .i64 ((rd_T34 x16_4 (ji45)).f0), .int .i64 ((rd_T34 x16_4 (ji45)).f1), .int .i64 ((rd_T34 x16_4 (ji45)).f2), .int .i64 ((rd_T34 x16_4 (ji45)).f3)] (fun k_ => some k_ ≠ (.slice (some ad145) x16_4.length co56 : Value).ownBlock ∧ k_ ≠ gb138) (fun _ => False) rfl rfl ?aP (fun _ hk => hk.elim) ?aF ?aO ?aB ?aS ?aL ?_; (case aP => exact k34_mkM _ _ _ (⟨(rd_T34 x16_4 (ji45)).f0, (rd_T34 x16_4 (ji45)).f1, (rd_T34 x16_4 (ji45)).f2, (rd_T34 x16_4 (ji45)).f3⟩ : S34)); (case aB => exact (by repeat (first | (with_reducible first | exact HB.out | apply below_alloc | apply pw_below_drewN | apply below_drew1 | refine below_set ?_ GE138.out) | exact HB.out))); (case aF => exact (fun k_ hk => ⟨Kd.fresh' (Kd.R_lt (by (with_reducible repeat (first | apply Kd.R_alloc | apply Kd.R_drewN | apply Kd.R_drew)); exact HO_16.out)) k_ hk, Kd.freshB (g := gb138) (o := .cells #[.int .i64 ((rd_T34 y134 0).f0), .int .i64 ((rd_T34 y134 0).f1), .int .i64 x139002_29, .int .i64 ((rd_T34 y134 0).f3)] 34 (0, 0)) (by (with_reducible repeat (first | refine blk_drewN ?_ _ | refine blk_drew ?_ | refine blk_alloc ?_ _)); exact BK138.out) k_ hk⟩)); (case aO => exact (by (with_reducible repeat (first | apply Kd.R_alloc | apply Kd.R_drewN | apply Kd.R_drew)); exact HO_19.out)); (case aS => exact (below_size (by repeat (first | (with_reducible first | exact HB.out | apply below_alloc | apply pw_below_drewN | apply below_drew1 | refine below_set ?_ GE138.out) | exact HB.out)))); (case aL => have := LMc48.out; omega); intro v147 w57 ho hb hg hat; rw [← Ny146.out] at ho; have n0_ := Aside0.mk (Kd.R_after (ok := (fun k_ => k_ ≠ gb138)) (by (with_reducible repeat (first | apply Kd.R_alloc | apply Kd.R_drewN | apply Kd.R_drew)); exact Kd.R_mono HO_16.out (fun _ hk => ⟨hk.2, hk.1⟩)) hg hat); have n1_ := Aside0.mk (blk_grown (g := gb138) (o := .cells #[.int .i64 ((rd_T34 y134 0).f0), .int .i64 ((rd_T34 y134 0).f1), .int .i64 x139002_29, .int .i64 ((rd_T34 y134 0).f3)] 34 (0, 0)) (by (with_reducible repeat (first | refine blk_drewN ?_ _ | refine blk_drew ?_ | refine blk_alloc ?_ _)); exact BK138.out) hg (Kd.R_away HO_19.out (fun _ hk => hk.2))); have n2_ := Aside0.mk (hb); have n3_ := Aside0.mk (ho); clear HO_16; clear BK138; clear HB; clear HO_19; have HO_16 := n0_; have BK138 := n1_; have HB := n2_; have HO148 := n3_; clear n0_ n1_ n2_ n3_; clear ho hb hg hat; have q58 : ((ji45) : Int) ≤ ((x16_4.length : Int) : Int) := of_decide_eq_true (by first | (with_reducible assumption) | assumption); obtain ⟨i058, hi058, _, hsz58, _⟩ := info_parts info34; have hroom58 : x16_4.length ≤ co56 := (Kd.R_reads' HO_16.out).2.1; have hC58 : Kd.C k34 _ (some ad145) x16_4.length x16_4 := (Kd.R_reads' HO_16.out).2.2; have hcut58 := cut_to (P := Try.prog) 22 34 .i64 Try.underlying22 hi058 (some ad145) x16_4.length co56 (ji45) (of_decide_eq_true (by first | (with_reducible assumption) | assumption)) q58 hroom58; have hr58 := Kd.C_take (m := ((ji45) : Int).toNat) hC58 (by omega); have hy58 : y149.length = ((ji45) : Int).toNat := (by rw [Ny149.out, List.length_take]; omega); rw [← Ny149.out] at hr58; rw [← hy58] at hcut58; have HR152 := Aside0.mk hr58; have HC152 := Aside0.mk (show y149.length ≤ co56 from by omega); clear hr58 hC58 hroom58 hi058 hsz58; have KY58 := Aside0.mk hy58; clear hy58; have KL58 := Aside0.mk (show ((ji45) : Int).toNat ≤ x16_4.length from by omega); replace q58 := eq_true q58) | ((with_reducible refine gate_builtin (b := .append) (xs := #[.tmp 135, .tmp 138]) rfl ?_); (try (refine gate_guard (by rfl) ?_; dsimp only)); at_builtin; refine Kd.R_append_rows k34 (w0 := w) w.heap.size rfl (.tmp 135) (.tmp 138) 22 34 (.agg #[(.int .i64 0), (.int .i64 0), (.int .i64 0), (.int .i64 0)]) 32 rfl Try.underlying22 info34 rfl (by decide) (by omega) (.slice none 0 0) ([] : List (S34)) y149 _ _ _ (fun k_ => some k_ ≠ (.slice (some ad145) x16_4.length co56 : Value).ownBlock ∧ some k_ ≠ (v147 : Value).ownBlock ∧ k_ ≠ gb138) (fun _ => False) rfl rfl ?aO ?aR (fun _ _ h => h) (fun _ h => h.elim) ?aF ?aB ?aS ?aL ?_; (case aR => repeat (first | exact (by repeat (first | (with_reducible exact HR152.out) | (with_reducible refine Kd.C_alloc ?_ _) | (with_reducible refine Kd.C_drewN ?_ _) | (with_reducible refine Kd.C_drew ?_) | exact HR152.out)) | (with_reducible refine Kd.C_alloc ?_ _) | (with_reducible refine Kd.C_drewN ?_ _) | (with_reducible refine Kd.C_drew ?_))); (case aB => exact (by repeat (first | (with_reducible first | exact HB.out | apply below_alloc | apply pw_below_drewN | apply below_drew1 | refine below_set ?_ GE138.out) | exact HB.out))); (case aF => exact (fun k_ hk => ⟨Kd.fresh' (Kd.R_lt (by (with_reducible repeat (first | apply Kd.R_alloc | apply Kd.R_drewN | apply Kd.R_drew)); exact HO_16.out)) k_ hk, Kd.fresh' (Kd.R_lt (by (with_reducible repeat (first | apply Kd.R_alloc | apply Kd.R_drewN | apply Kd.R_drew)); exact HO148.out)) k_ hk, Kd.freshB (g := gb138) (o := .cells #[.int .i64 ((rd_T34 y134 0).f0), .int .i64 ((rd_T34 y134 0).f1), .int .i64 x139002_29, .int .i64 ((rd_T34 y134 0).f3)] 34 (0, 0)) (by (with_reducible repeat (first | refine blk_drewN ?_ _ | refine blk_drew ?_ | refine blk_alloc ?_ _)); exact BK138.out) k_ hk⟩)); (case aO => exact ((Kd.R_nil _ _ _ _ (fun k_ => some k_ ≠ (.slice (some ad145) x16_4.length co56 : Value).ownBlock ∧ some k_ ≠ (v147 : Value).ownBlock ∧ k_ ≠ gb138)))); (case aS => exact (below_size (by repeat (first | (with_reducible first | exact HB.out | apply below_alloc | apply pw_below_drewN | apply below_drew1 | refine below_set ?_ GE138.out) | exact HB.out)))); (case aL => have := LMc51.out; omega); intro v154 w59 ho hb hg hat; rw [← Ny153.out] at ho; have n0_ := Aside0.mk (Kd.R_after (Kd.R_apart_nil (by (with_reducible repeat (first | apply Kd.R_alloc | apply Kd.R_drewN | apply Kd.R_drew)); exact HO_16.out)) hg hat); have n1_ := Aside0.mk (blk_grown (g := gb138) (o := .cells #[.int .i64 ((rd_T34 y134 0).f0), .int .i64 ((rd_T34 y134 0).f1), .int .i64 x139002_29, .int .i64 ((rd_T34 y134 0).f3)] 34 (0, 0)) (by (with_reducible repeat (first | refine blk_drewN ?_ _ | refine blk_drew ?_ | refine blk_alloc ?_ _)); exact BK138.out) hg (by simp [Value.ownBlock])); have n2_ := Aside0.mk (Kd.R_after (Kd.R_apart_nil (by (with_reducible repeat (first | apply Kd.R_alloc | apply Kd.R_drewN | apply Kd.R_drew)); exact HO148.out)) hg hat); have n3_ := Aside0.mk (hb); have n4_ := Aside0.mk ((show Kd.C k34 w59 (some ad145) y149.length y149 from by rw [Ny149.out]; exact Kd.C_take (m := ((ji45) : Int).toNat) ((Kd.R_reads' (Kd.R_after (Kd.R_apart_nil (by (with_reducible repeat (first | apply Kd.R_alloc | apply Kd.R_drewN | apply Kd.R_drew)); exact HO_16.out)) hg hat)).2.2) KL58.out)); have n5_ := Aside0.mk (ho); clear HO_16; clear BK138; clear HO148; clear HB; clear HR152; have HO_16 := n0_; have BK138 := n1_; have HO148 := n2_; have HB := n3_; have HR152 := n4_; have HO155 := n5_; clear n0_ n1_ n2_ n3_ n4_ n5_; clear ho hb hg hat; have q60 : ((ji52) : Int) ≤ ((x16_4.length : Int) : Int) := of_decide_eq_true (by first | (with_reducible assumption) | assumption); obtain ⟨i060, hi060, _, hsz60, _⟩ := info_parts info34; have hroom60 : x16_4.length ≤ co56 := (Kd.R_reads' HO_16.out).2.1; have hC60 : Kd.C k34 _ (some ad145) x16_4.length x16_4 := (Kd.R_reads' HO_16.out).2.2; have q060 : (0 : Int) ≤ ((ji52) : Int) := of_decide_eq_true (by first | (with_reducible assumption) | assumption); have hcut60 := cut_from (P := Try.prog) 22 34 .i64 Try.underlying22 hi060 4 hsz60 (some ad145) x16_4.length co56 (ji52) q060 q60; have hr60 := Kd.C_drop (m := ((ji52) : Int).toNat) (c := co56) hC60 (by omega) hroom60; obtain ⟨A60, hA60⟩ : ∃ A1, A1 = (if co56 = ((ji52) : Int).toNat then (some ad145) else ((some ad145) : Option Addr).map (·.add (((ji52) : Int).toNat * 4))) := ⟨_, rfl⟩; obtain ⟨c60, hc60⟩ : ∃ c1, c1 = co56 - ((ji52) : Int).toNat := ⟨_, rfl⟩; have hy60 : y156.length = x16_4.length - ((ji52) : Int).toNat := (by rw [Ny156.out, List.length_drop] <;> omega); rw [show (x16_4).drop ((ji52) : Int).toNat = y156 from Ny156.out.symm] at hr60; replace hr60 : Kd.C k34 _ A60 y156.length y156 := (by rw [hA60]; exact hr60); rw [← hy60, ← hA60, ← hc60] at hcut60; have HR159 := Aside0.mk hr60; have HC159 := Aside0.mk (show y156.length ≤ c60 from by rw [hy60, hc60]; exact Nat.sub_le_sub_right hroom60 _); clear hr60 hC60 hroom60 hi060 hsz60 hc60; have KY60 := Aside0.mk hy60; have KA60 := Aside0.mk hA60; clear hy60 hA60; have KL60 := Aside0.mk (show ((ji52) : Int).toNat ≤ x16_4.length from by omega); replace q60 := eq_true q60) | ((with_reducible refine gate_builtin (b := .append) (xs := #[.tmp 140, .tmp 144]) rfl ?_); (try (refine gate_guard (by rfl) ?_; dsimp only)); at_builtin; refine Kd.R_append_rows k34 (w0 := w) w.heap.size rfl (.tmp 140) (.tmp 144) 22 34 (.agg #[(.int .i64 0), (.int .i64 0), (.int .i64 0), (.int .i64 0)]) 32 rfl Try.underlying22 info34 rfl (by decide) (by omega) v154 y153 y156 _ _ _ (fun k_ => some k_ ≠ (.slice (some ad145) x16_4.length co56 : Value).ownBlock ∧ some k_ ≠ (v147 : Value).ownBlock ∧ k_ ≠ gb138) (fun _ => False) rfl rfl ?aO ?aR (fun _ _ h => h) (fun _ h => h.elim) ?aF ?aB ?aS ?aL ?_; (case aR => repeat (first | exact (by repeat (first | (with_reducible exact HR159.out) | (with_reducible refine Kd.C_alloc ?_ _) | (with_reducible refine Kd.C_drewN ?_ _) | (with_reducible refine Kd.C_drew ?_) | exact HR159.out)) | (with_reducible refine Kd.C_alloc ?_ _) | (with_reducible refine Kd.C_drewN ?_ _) | (with_reducible refine Kd.C_drew ?_))); (case aB => exact (by repeat (first | (with_reducible first | exact HB.out | apply below_alloc | apply pw_below_drewN | apply below_drew1 | refine below_set ?_ GE138.out) | exact HB.out))); (case aF => exact (fun k_ hk => ⟨Kd.fresh' (Kd.R_lt (by (with_reducible repeat (first | apply Kd.R_alloc | apply Kd.R_drewN | apply Kd.R_drew)); exact HO_16.out)) k_ hk, Kd.fresh' (Kd.R_lt (by (with_reducible repeat (first | apply Kd.R_alloc | apply Kd.R_drewN | apply Kd.R_drew)); exact HO148.out)) k_ hk, Kd.freshB (g := gb138) (o := .cells #[.int .i64 ((rd_T34 y134 0).f0), .int .i64 ((rd_T34 y134 0).f1), .int .i64 x139002_29, .int .i64 ((rd_T34 y134 0).f3)] 34 (0, 0)) (by (with_reducible repeat (first | refine blk_drewN ?_ _ | refine blk_drew ?_ | refine blk_alloc ?_ _)); exact BK138.out) k_ hk⟩)); (case aO => exact (by (with_reducible repeat (first | apply Kd.R_alloc | apply Kd.R_drewN | apply Kd.R_drew)); exact HO155.out)); (case aS => exact (below_size (by repeat (first | (with_reducible first | exact HB.out | apply below_alloc | apply pw_below_drewN | apply below_drew1 | refine below_set ?_ GE138.out) | exact HB.out)))); (case aL => have := LMc55.out; omega); intro v161 w61 ho hb hg hat; rw [← Ny160.out] at ho; have n0_ := Aside0.mk (Kd.R_after (ok := (fun k_ => some k_ ≠ (v147 : Value).ownBlock ∧ k_ ≠ gb138)) (by (with_reducible repeat (first | apply Kd.R_alloc | apply Kd.R_drewN | apply Kd.R_drew)); exact Kd.R_mono HO_16.out (fun _ hk => ⟨⟨hk.1.2, hk.1.1⟩, hk.2⟩)) hg hat); have n1_ := Aside0.mk (blk_grown (g := gb138) (o := .cells #[.int .i64 ((rd_T34 y134 0).f0), .int .i64 ((rd_T34 y134 0).f1), .int .i64 x139002_29, .int .i64 ((rd_T34 y134 0).f3)] 34 (0, 0)) (by (with_reducible repeat (first | refine blk_drewN ?_ _ | refine blk_drew ?_ | refine blk_alloc ?_ _)); exact BK138.out) hg (Kd.R_away HO155.out (fun _ hk => hk.2.2))); have n2_ := Aside0.mk (Kd.R_after (ok := (fun k_ => some k_ ≠ (.slice (some ad145) x16_4.length co56 : Value).ownBlock ∧ k_ ≠ gb138)) (by (with_reducible repeat (first | apply Kd.R_alloc | apply Kd.R_drewN | apply Kd.R_drew)); exact HO148.out) hg hat); have n3_ := Aside0.mk (hb); have n4_ := Aside0.mk ((show Kd.C k34 w61 (some ad145) y149.length y149 from by rw [Ny149.out]; exact Kd.C_take (m := ((ji45) : Int).toNat) ((Kd.R_reads' (Kd.R_after (ok := (fun k_ => some k_ ≠ (v147 : Value).ownBlock ∧ k_ ≠ gb138)) (by (with_reducible repeat (first | apply Kd.R_alloc | apply Kd.R_drewN | apply Kd.R_drew)); exact Kd.R_mono HO_16.out (fun _ hk => ⟨⟨hk.1.2, hk.1.1⟩, hk.2⟩)) hg hat)).2.2) KL58.out)); have n5_ := Aside0.mk ((show Kd.C k34 w61 A60 y156.length y156 from by rw [Ny156.out, KA60.out]; exact Kd.C_drop (m := ((ji52) : Int).toNat) (c := co56) ((Kd.R_reads' (Kd.R_after (ok := (fun k_ => some k_ ≠ (v147 : Value).ownBlock ∧ k_ ≠ gb138)) (by (with_reducible repeat (first | apply Kd.R_alloc | apply Kd.R_drewN | apply Kd.R_drew)); exact Kd.R_mono HO_16.out (fun _ hk => ⟨⟨hk.1.2, hk.1.1⟩, hk.2⟩)) hg hat)).2.2) KL60.out ((Kd.R_reads' (Kd.R_after (ok := (fun k_ => some k_ ≠ (v147 : Value).ownBlock ∧ k_ ≠ gb138)) (by (with_reducible repeat (first | apply Kd.R_alloc | apply Kd.R_drewN | apply Kd.R_drew)); exact Kd.R_mono HO_16.out (fun _ hk => ⟨⟨hk.1.2, hk.1.1⟩, hk.2⟩)) hg hat)).2.1))); have n6_ := Aside0.mk (ho); clear HO_16; clear BK138; clear HO148; clear HB; clear HR152; clear HR159; clear HO155; have HO_16 := n0_; have BK138 := n1_; have HO148 := n2_; have HB := n3_; have HR152 := n4_; have HR159 := n5_; have HO162 := n6_; clear n0_ n1_ n2_ n3_ n4_ n5_ n6_; clear ho hb hg hat))
                                                  go_roundg k4
                                                  case measure => have := HJ9.out; have := HJ21.out; have := HJ29.out; have := HK4.out; omega
                                                  case rel => exact ⟨(y160), (y146), (wrap64 (x20_4 + 1)), (by first | rfl | (simp; done) | (simp [*]; done)), H', ⟨by have := HJ9.out; have := HJ21.out; have := HJ29.out; have := HK4.out; omega⟩, ⟨by (with_reducible repeat (first | apply Kd.R_alloc | apply Kd.R_drewN | apply Kd.R_drew)); exact Kd.R_mono HO162.out (fun _ hk => ⟨hk.2.1, hk.2.2⟩)⟩, ⟨by (with_reducible repeat (first | apply Kd.R_alloc | apply Kd.R_drewN | apply Kd.R_drew)); exact Kd.R_mono HO148.out (fun _ hk => ⟨hk.2, hk.1.2⟩)⟩, ⟨by (with_reducible repeat (first | refine blk_drewN ?_ _ | refine blk_drew ?_ | refine blk_alloc ?_ _)); exact BK138.out⟩, ⟨by repeat (first | (with_reducible first | exact HB.out | apply below_alloc | apply pw_below_drewN | apply below_drew1 | refine below_set ?_ GE138.out) | exact HB.out)⟩⟩
                                                · rw [if_neg c55] at H
                                                  exact absurd H (by simp)
                                              · rw [if_neg c54] at H
                                                exact absurd H (by simp)
                                            · rw [if_neg c53] at H
                                              exact absurd H (by simp)
                                          · rw [if_neg c51] at H
                                            exact absurd H (by simp)
                                        · rw [if_neg c50] at H
                                          exact absurd H (by simp)
                                      · rw [if_neg c48] at H
                                        exact absurd H (by simp)
                                    · rw [if_neg c47] at H
                                      exact absurd H (by simp)
                                  · rw [if_neg c46] at H
                                    exact absurd H (by simp)
                              · rw [if_neg c43] at H
                                have c43b0 : decide (0 ≤ (rd l1 x20_4)) = false := decide_eq_false c43
                                clear c43
                                by_cases c62 : 0 < (x16_4.length : Int)
                                · rw [if_pos c62] at H
                                  have c62b0 : decide (0 < (x16_4.length : Int)) = true := decide_eq_true c62
                                  have c62b1 : decide (0 < x16_4.length) = true := decide_eq_true (by omega)
                                  clear c62
                                  by_cases c63 : x19_4.length < 4398046511104
                                  · rw [if_pos c63] at H
                                    have LMc63 := Aside0.mk c63
                                    clear c63
                                    obtain ⟨y164, hy164⟩ : ∃ y_ : List (S34), y_ = (x19_4 ++ [(⟨(rd_T34 x16_4 0).f0, (rd_T34 x16_4 0).f1, (rd_T34 x16_4 0).f2, (rd_T34 x16_4 0).f3⟩ : S34)]) := ⟨_, rfl⟩
                                    replace H : (if 0 ≤ (x16_4.length : Int) then ((some (x16_4.take 0 : List (S34))).bind fun y167 => (if ([] : List (S34)).length + y167.length < 4398046511104 then ((some (([] : List (S34)) ++ y167 : List (S34))).bind fun y171 => (if 0 ≤ ((0 : Int) + 1) then (if (0 + 1) ≤ (x16_4.length : Int) then ((some (x16_4.drop ((0 + 1) : Int).toNat : List (S34))).bind fun y174 => (if y171.length + y174.length < 4398046511104 then (lanternlaw09_PlanOrder.l0 k4 l0 l1 a3 a4 a5 (y171 ++ y174) y164 (wrap64 (x20_4 + 1))) else (none))) else (none)) else (none))) else (none))) else (none)) = some r := by first | (rw [hy164]; with_reducible exact H) | (have H2_ := (Option.bind_some _ _).symm.trans H; rw [hy164]; with_reducible exact H2_) | (have H2_ := (Option.bind_some _ _).symm.trans H; with_reducible exact H2_) | with_reducible exact H | (rw [hy164]; exact H) | exact H
                                    have Ny164 := Aside0.mk hy164
                                    clear hy164
                                    by_cases c64 : 0 ≤ (x16_4.length : Int)
                                    · rw [if_pos c64] at H
                                      have c64b0 := eq_true c64
                                      have c64b1 : decide (0 ≤ (x16_4.length : Int)) = true := decide_eq_true c64
                                      clear c64
                                      obtain ⟨y167, hy167⟩ : ∃ y_ : List (S34), y_ = (x16_4.take 0) := ⟨_, rfl⟩
                                      replace H : (if ([] : List (S34)).length + y167.length < 4398046511104 then ((some (([] : List (S34)) ++ y167 : List (S34))).bind fun y171 => (if 0 ≤ ((0 : Int) + 1) then (if (0 + 1) ≤ (x16_4.length : Int) then ((some (x16_4.drop ((0 + 1) : Int).toNat : List (S34))).bind fun y174 => (if y171.length + y174.length < 4398046511104 then (lanternlaw09_PlanOrder.l0 k4 l0 l1 a3 a4 a5 (y171 ++ y174) y164 (wrap64 (x20_4 + 1))) else (none))) else (none)) else (none))) else (none)) = some r := by first | (rw [hy167]; with_reducible exact H) | (have H2_ := (Option.bind_some _ _).symm.trans H; rw [hy167]; with_reducible exact H2_) | (have H2_ := (Option.bind_some _ _).symm.trans H; with_reducible exact H2_) | with_reducible exact H | (rw [hy167]; exact H) | exact H
                                      have Ny167 := Aside0.mk hy167
                                      clear hy167
                                      by_cases c65 : ([] : List (S34)).length + y167.length < 4398046511104
                                      · rw [if_pos c65] at H
                                        have LMc65 := Aside0.mk c65
                                        clear c65
                                        obtain ⟨y171, hy171⟩ : ∃ y_ : List (S34), y_ = (([] : List (S34)) ++ y167) := ⟨_, rfl⟩
                                        replace H : (if 0 ≤ ((0 : Int) + 1) then (if (0 + 1) ≤ (x16_4.length : Int) then ((some (x16_4.drop ((0 + 1) : Int).toNat : List (S34))).bind fun y174 => (if y171.length + y174.length < 4398046511104 then (lanternlaw09_PlanOrder.l0 k4 l0 l1 a3 a4 a5 (y171 ++ y174) y164 (wrap64 (x20_4 + 1))) else (none))) else (none)) else (none)) = some r := by first | (rw [hy171]; with_reducible exact H) | (have H2_ := (Option.bind_some _ _).symm.trans H; rw [hy171]; with_reducible exact H2_) | (have H2_ := (Option.bind_some _ _).symm.trans H; with_reducible exact H2_) | with_reducible exact H | (rw [hy171]; exact H) | exact H
                                        have Ny171 := Aside0.mk hy171
                                        clear hy171
                                        obtain ⟨ji66, hji66⟩ : ∃ j_ : Int, (0 + 1) = j_ := ⟨_, rfl⟩
                                        replace H : (if 0 ≤ (ji66) then (if (ji66) ≤ (x16_4.length : Int) then ((some (x16_4.drop ((ji66) : Int).toNat : List (S34))).bind fun y174 => (if y171.length + y174.length < 4398046511104 then (lanternlaw09_PlanOrder.l0 k4 l0 l1 a3 a4 a5 (y171 ++ y174) y164 (wrap64 (x20_4 + 1))) else (none))) else (none)) else (none)) = some r := by first | (rw [hji66] at H; exact H) | (simp only [hji66] at H ⊢; exact H)
                                        by_cases c67 : 0 ≤ (ji66)
                                        · rw [if_pos c67] at H
                                          have c67b0 := eq_true c67
                                          have c67b1 : decide (0 ≤ (ji66)) = true := decide_eq_true c67
                                          clear c67
                                          by_cases c68 : (ji66) ≤ (x16_4.length : Int)
                                          · rw [if_pos c68] at H
                                            have c68b0 := eq_true c68
                                            have c68b1 : decide ((ji66) ≤ (x16_4.length : Int)) = true := decide_eq_true c68
                                            clear c68
                                            obtain ⟨y174, hy174⟩ : ∃ y_ : List (S34), y_ = (x16_4.drop ((ji66) : Int).toNat) := ⟨_, rfl⟩
                                            replace H : (if y171.length + y174.length < 4398046511104 then (lanternlaw09_PlanOrder.l0 k4 l0 l1 a3 a4 a5 (y171 ++ y174) y164 (wrap64 (x20_4 + 1))) else (none)) = some r := by first | (rw [hy174]; with_reducible exact H) | (have H2_ := (Option.bind_some _ _).symm.trans H; rw [hy174]; with_reducible exact H2_) | (have H2_ := (Option.bind_some _ _).symm.trans H; with_reducible exact H2_) | with_reducible exact H | (rw [hy174]; exact H) | exact H
                                            have Ny174 := Aside0.mk hy174
                                            clear hy174
                                            by_cases c69 : y171.length + y174.length < 4398046511104
                                            · rw [if_pos c69] at H
                                              have LMc69 := Aside0.mk c69
                                              clear c69
                                              obtain ⟨y178, hy178⟩ : ∃ y_ : List (S34), y_ = (y171 ++ y174) := ⟨_, rfl⟩
                                              replace H : (lanternlaw09_PlanOrder.l0 k4 l0 l1 a3 a4 a5 y178 y164 (wrap64 (x20_4 + 1))) = some r := by first | (rw [hy178]; with_reducible exact H) | (have H2_ := (Option.bind_some _ _).symm.trans H; rw [hy178]; with_reducible exact H2_) | (have H2_ := (Option.bind_some _ _).symm.trans H; with_reducible exact H2_) | with_reducible exact H | (rw [hy178]; exact H) | exact H
                                              have Ny178 := Aside0.mk hy178
                                              clear hy178
                                              have H' := Aside0.mk H
                                              clear H
                                              obtain ⟨Ao70, co70, eo70⟩ := Kd.R_slice HO_16.out
                                              subst eo70
                                              have p143 : 0 ≤ (x20_4 : Int) := of_decide_eq_true (by first | (with_reducible assumption) | assumption)
                                              have q143 : x20_4 < (l1.length : Int) := of_decide_eq_true (by first | (with_reducible assumption) | assumption)
                                              obtain ⟨ad143, e143, hx143_0⟩ := Kd.at_int HR1.out x20_4 p143 q143
                                              cases e143
                                              replace hx143_0 := (HB.out.cell (World.block_lt_of_cell? w _ hx143_0)).trans hx143_0
                                              replace p143 := eq_true p143
                                              replace q143 := eq_true q143
                                              have p163 : 0 ≤ (0 : Int) := (by omega)
                                              have q163 : 0 < (x16_4.length : Int) := of_decide_eq_true (by first | (with_reducible assumption) | assumption)
                                              obtain ⟨ad163, e163, hx163_0, hx163_1, hx163_2, hx163_3⟩ := at_T34 (Kd.R_reads' HO_16.out).2.2 0 p163 q163
                                              cases e163
                                              have qi163 : (0 < x16_4.length) = True := eq_true (by omega)
                                              (try rw [show ((0 : Int)).toNat = 0 from rfl] at hx163_0)
                                              (try rw [show 0 * 4 = 0 from rfl] at hx163_0)
                                              (try rw [Addr.add_zero'] at hx163_0)
                                              (try rw [show ((0 : Int)).toNat = 0 from rfl] at hx163_1)
                                              (try rw [show 0 * 4 = 0 from rfl] at hx163_1)
                                              (try rw [Addr.add_zero'] at hx163_1)
                                              (try rw [show ((0 : Int)).toNat = 0 from rfl] at hx163_2)
                                              (try rw [show 0 * 4 = 0 from rfl] at hx163_2)
                                              (try rw [Addr.add_zero'] at hx163_2)
                                              (try rw [show ((0 : Int)).toNat = 0 from rfl] at hx163_3)
                                              (try rw [show 0 * 4 = 0 from rfl] at hx163_3)
                                              (try rw [Addr.add_zero'] at hx163_3)
                                              replace p163 := eq_true p163
                                              replace q163 := eq_true q163
                                              go_wp2_with (first | ((with_reducible refine gate_builtin (b := .append) (xs := #[.tmp 128, .tmp 133]) rfl ?_); (try (refine gate_guard (by rfl) ?_; dsimp only)); at_builtin; refine Kd.R_append k34 (w0 := w) w.heap.size rfl (.tmp 128) (.tmp 133) 22 34 (.agg #[(.int .i64 0), (.int .i64 0), (.int .i64 0), (.int .i64 0)]) 32 rfl Try.underlying22 info34 rfl (by decide) (by omega) u19 x19_4 (⟨(rd_T34 x16_4 0).f0, (rd_T34 x16_4 0).f1, (rd_T34 x16_4 0).f2, (rd_T34 x16_4 0).f3⟩ : S34) [.int .i64 ((rd_T34 x16_4 0).f0), .int .i64 ((rd_T34 x16_4 0).f1), .int .i64 ((rd_T34 x16_4 0).f2), .int .i64 ((rd_T34 x16_4 0).f3)] (fun k_ => some k_ ≠ (.slice (some ad163) x16_4.length co70 : Value).ownBlock ∧ k_ ≠ gb138) (fun _ => False) rfl rfl ?aP (fun _ hk => hk.elim) ?aF ?aO ?aB ?aS ?aL ?_; (case aP => exact k34_mkM _ _ _ (⟨(rd_T34 x16_4 0).f0, (rd_T34 x16_4 0).f1, (rd_T34 x16_4 0).f2, (rd_T34 x16_4 0).f3⟩ : S34)); (case aB => exact (by repeat (first | (with_reducible first | exact HB.out | apply below_alloc | apply pw_below_drewN | apply below_drew1 | refine below_set ?_ GE138.out) | exact HB.out))); (case aF => exact (fun k_ hk => ⟨Kd.fresh' (Kd.R_lt (by (with_reducible repeat (first | apply Kd.R_alloc | apply Kd.R_drewN | apply Kd.R_drew)); exact HO_16.out)) k_ hk, Kd.freshB (g := gb138) (o := .cells #[.int .i64 ((rd_T34 y134 0).f0), .int .i64 ((rd_T34 y134 0).f1), .int .i64 x139002_29, .int .i64 ((rd_T34 y134 0).f3)] 34 (0, 0)) (by (with_reducible repeat (first | refine blk_drewN ?_ _ | refine blk_drew ?_ | refine blk_alloc ?_ _)); exact BK138.out) k_ hk⟩)); (case aO => exact (by (with_reducible repeat (first | apply Kd.R_alloc | apply Kd.R_drewN | apply Kd.R_drew)); exact HO_19.out)); (case aS => exact (below_size (by repeat (first | (with_reducible first | exact HB.out | apply below_alloc | apply pw_below_drewN | apply below_drew1 | refine below_set ?_ GE138.out) | exact HB.out)))); (case aL => have := LMc63.out; omega); intro v165 w71 ho hb hg hat; rw [← Ny164.out] at ho; have n0_ := Aside0.mk (Kd.R_after (ok := (fun k_ => k_ ≠ gb138)) (by (with_reducible repeat (first | apply Kd.R_alloc | apply Kd.R_drewN | apply Kd.R_drew)); exact Kd.R_mono HO_16.out (fun _ hk => ⟨hk.2, hk.1⟩)) hg hat); have n1_ := Aside0.mk (blk_grown (g := gb138) (o := .cells #[.int .i64 ((rd_T34 y134 0).f0), .int .i64 ((rd_T34 y134 0).f1), .int .i64 x139002_29, .int .i64 ((rd_T34 y134 0).f3)] 34 (0, 0)) (by (with_reducible repeat (first | refine blk_drewN ?_ _ | refine blk_drew ?_ | refine blk_alloc ?_ _)); exact BK138.out) hg (Kd.R_away HO_19.out (fun _ hk => hk.2))); have n2_ := Aside0.mk (hb); have n3_ := Aside0.mk (ho); clear HO_16; clear BK138; clear HB; clear HO_19; have HO_16 := n0_; have BK138 := n1_; have HB := n2_; have HO166 := n3_; clear n0_ n1_ n2_ n3_; clear ho hb hg hat; have q72 : (0 : Int) ≤ ((x16_4.length : Int) : Int) := of_decide_eq_true (by first | (with_reducible assumption) | assumption); obtain ⟨i072, hi072, _, hsz72, _⟩ := info_parts info34; have hroom72 : x16_4.length ≤ co70 := (Kd.R_reads' HO_16.out).2.1; have hC72 : Kd.C k34 _ (some ad163) x16_4.length x16_4 := (Kd.R_reads' HO_16.out).2.2; have hcut72 := cut_to (P := Try.prog) 22 34 .i64 Try.underlying22 hi072 (some ad163) x16_4.length co70 0 (by omega) q72 hroom72; have hr72 := Kd.C_take (m := 0) hC72 (by omega); have hy72 : y167.length = (0 : Int).toNat := (by rw [Ny167.out, List.length_take]; omega); rw [← Ny167.out] at hr72; rw [← hy72] at hcut72; have HR170 := Aside0.mk hr72; have HC170 := Aside0.mk (show y167.length ≤ co70 from by omega); clear hr72 hC72 hroom72 hi072 hsz72; have KY72 := Aside0.mk hy72; clear hy72; have KL72 := Aside0.mk (show 0 ≤ x16_4.length from by omega); replace q72 := eq_true q72) | ((with_reducible refine gate_builtin (b := .append) (xs := #[.tmp 135, .tmp 138]) rfl ?_); (try (refine gate_guard (by rfl) ?_; dsimp only)); at_builtin; refine Kd.R_append_rows k34 (w0 := w) w.heap.size rfl (.tmp 135) (.tmp 138) 22 34 (.agg #[(.int .i64 0), (.int .i64 0), (.int .i64 0), (.int .i64 0)]) 32 rfl Try.underlying22 info34 rfl (by decide) (by omega) (.slice none 0 0) ([] : List (S34)) y167 _ _ _ (fun k_ => some k_ ≠ (.slice (some ad163) x16_4.length co70 : Value).ownBlock ∧ some k_ ≠ (v165 : Value).ownBlock ∧ k_ ≠ gb138) (fun _ => False) rfl rfl ?aO ?aR (fun _ _ h => h) (fun _ h => h.elim) ?aF ?aB ?aS ?aL ?_; (case aR => repeat (first | exact (by repeat (first | (with_reducible exact HR170.out) | (with_reducible refine Kd.C_alloc ?_ _) | (with_reducible refine Kd.C_drewN ?_ _) | (with_reducible refine Kd.C_drew ?_) | exact HR170.out)) | (with_reducible refine Kd.C_alloc ?_ _) | (with_reducible refine Kd.C_drewN ?_ _) | (with_reducible refine Kd.C_drew ?_))); (case aB => exact (by repeat (first | (with_reducible first | exact HB.out | apply below_alloc | apply pw_below_drewN | apply below_drew1 | refine below_set ?_ GE138.out) | exact HB.out))); (case aF => exact (fun k_ hk => ⟨Kd.fresh' (Kd.R_lt (by (with_reducible repeat (first | apply Kd.R_alloc | apply Kd.R_drewN | apply Kd.R_drew)); exact HO_16.out)) k_ hk, Kd.fresh' (Kd.R_lt (by (with_reducible repeat (first | apply Kd.R_alloc | apply Kd.R_drewN | apply Kd.R_drew)); exact HO166.out)) k_ hk, Kd.freshB (g := gb138) (o := .cells #[.int .i64 ((rd_T34 y134 0).f0), .int .i64 ((rd_T34 y134 0).f1), .int .i64 x139002_29, .int .i64 ((rd_T34 y134 0).f3)] 34 (0, 0)) (by (with_reducible repeat (first | refine blk_drewN ?_ _ | refine blk_drew ?_ | refine blk_alloc ?_ _)); exact BK138.out) k_ hk⟩)); (case aO => exact ((Kd.R_nil _ _ _ _ (fun k_ => some k_ ≠ (.slice (some ad163) x16_4.length co70 : Value).ownBlock ∧ some k_ ≠ (v165 : Value).ownBlock ∧ k_ ≠ gb138)))); (case aS => exact (below_size (by repeat (first | (with_reducible first | exact HB.out | apply below_alloc | apply pw_below_drewN | apply below_drew1 | refine below_set ?_ GE138.out) | exact HB.out)))); (case aL => have := LMc65.out; omega); intro v172 w73 ho hb hg hat; rw [← Ny171.out] at ho; have n0_ := Aside0.mk (Kd.R_after (Kd.R_apart_nil (by (with_reducible repeat (first | apply Kd.R_alloc | apply Kd.R_drewN | apply Kd.R_drew)); exact HO_16.out)) hg hat); have n1_ := Aside0.mk (blk_grown (g := gb138) (o := .cells #[.int .i64 ((rd_T34 y134 0).f0), .int .i64 ((rd_T34 y134 0).f1), .int .i64 x139002_29, .int .i64 ((rd_T34 y134 0).f3)] 34 (0, 0)) (by (with_reducible repeat (first | refine blk_drewN ?_ _ | refine blk_drew ?_ | refine blk_alloc ?_ _)); exact BK138.out) hg (by simp [Value.ownBlock])); have n2_ := Aside0.mk (Kd.R_after (Kd.R_apart_nil (by (with_reducible repeat (first | apply Kd.R_alloc | apply Kd.R_drewN | apply Kd.R_drew)); exact HO166.out)) hg hat); have n3_ := Aside0.mk (hb); have n4_ := Aside0.mk ((show Kd.C k34 w73 (some ad163) y167.length y167 from by rw [Ny167.out]; exact Kd.C_take (m := 0) ((Kd.R_reads' (Kd.R_after (Kd.R_apart_nil (by (with_reducible repeat (first | apply Kd.R_alloc | apply Kd.R_drewN | apply Kd.R_drew)); exact HO_16.out)) hg hat)).2.2) KL72.out)); have n5_ := Aside0.mk (ho); clear HO_16; clear BK138; clear HO166; clear HB; clear HR170; have HO_16 := n0_; have BK138 := n1_; have HO166 := n2_; have HB := n3_; have HR170 := n4_; have HO173 := n5_; clear n0_ n1_ n2_ n3_ n4_ n5_; clear ho hb hg hat; have q74 : ((ji66) : Int) ≤ ((x16_4.length : Int) : Int) := of_decide_eq_true (by first | (with_reducible assumption) | assumption); obtain ⟨i074, hi074, _, hsz74, _⟩ := info_parts info34; have hroom74 : x16_4.length ≤ co70 := (Kd.R_reads' HO_16.out).2.1; have hC74 : Kd.C k34 _ (some ad163) x16_4.length x16_4 := (Kd.R_reads' HO_16.out).2.2; have q074 : (0 : Int) ≤ ((ji66) : Int) := of_decide_eq_true (by first | (with_reducible assumption) | assumption); have hcut74 := cut_from (P := Try.prog) 22 34 .i64 Try.underlying22 hi074 4 hsz74 (some ad163) x16_4.length co70 (ji66) q074 q74; have hr74 := Kd.C_drop (m := ((ji66) : Int).toNat) (c := co70) hC74 (by omega) hroom74; obtain ⟨A74, hA74⟩ : ∃ A1, A1 = (if co70 = ((ji66) : Int).toNat then (some ad163) else ((some ad163) : Option Addr).map (·.add (((ji66) : Int).toNat * 4))) := ⟨_, rfl⟩; obtain ⟨c74, hc74⟩ : ∃ c1, c1 = co70 - ((ji66) : Int).toNat := ⟨_, rfl⟩; have hy74 : y174.length = x16_4.length - ((ji66) : Int).toNat := (by rw [Ny174.out, List.length_drop] <;> omega); rw [show (x16_4).drop ((ji66) : Int).toNat = y174 from Ny174.out.symm] at hr74; replace hr74 : Kd.C k34 _ A74 y174.length y174 := (by rw [hA74]; exact hr74); rw [← hy74, ← hA74, ← hc74] at hcut74; have HR177 := Aside0.mk hr74; have HC177 := Aside0.mk (show y174.length ≤ c74 from by rw [hy74, hc74]; exact Nat.sub_le_sub_right hroom74 _); clear hr74 hC74 hroom74 hi074 hsz74 hc74; have KY74 := Aside0.mk hy74; have KA74 := Aside0.mk hA74; clear hy74 hA74; have KL74 := Aside0.mk (show ((ji66) : Int).toNat ≤ x16_4.length from by omega); replace q74 := eq_true q74) | ((with_reducible refine gate_builtin (b := .append) (xs := #[.tmp 140, .tmp 144]) rfl ?_); (try (refine gate_guard (by rfl) ?_; dsimp only)); at_builtin; refine Kd.R_append_rows k34 (w0 := w) w.heap.size rfl (.tmp 140) (.tmp 144) 22 34 (.agg #[(.int .i64 0), (.int .i64 0), (.int .i64 0), (.int .i64 0)]) 32 rfl Try.underlying22 info34 rfl (by decide) (by omega) v172 y171 y174 _ _ _ (fun k_ => some k_ ≠ (.slice (some ad163) x16_4.length co70 : Value).ownBlock ∧ some k_ ≠ (v165 : Value).ownBlock ∧ k_ ≠ gb138) (fun _ => False) rfl rfl ?aO ?aR (fun _ _ h => h) (fun _ h => h.elim) ?aF ?aB ?aS ?aL ?_; (case aR => repeat (first | exact (by repeat (first | (with_reducible exact HR177.out) | (with_reducible refine Kd.C_alloc ?_ _) | (with_reducible refine Kd.C_drewN ?_ _) | (with_reducible refine Kd.C_drew ?_) | exact HR177.out)) | (with_reducible refine Kd.C_alloc ?_ _) | (with_reducible refine Kd.C_drewN ?_ _) | (with_reducible refine Kd.C_drew ?_))); (case aB => exact (by repeat (first | (with_reducible first | exact HB.out | apply below_alloc | apply pw_below_drewN | apply below_drew1 | refine below_set ?_ GE138.out) | exact HB.out))); (case aF => exact (fun k_ hk => ⟨Kd.fresh' (Kd.R_lt (by (with_reducible repeat (first | apply Kd.R_alloc | apply Kd.R_drewN | apply Kd.R_drew)); exact HO_16.out)) k_ hk, Kd.fresh' (Kd.R_lt (by (with_reducible repeat (first | apply Kd.R_alloc | apply Kd.R_drewN | apply Kd.R_drew)); exact HO166.out)) k_ hk, Kd.freshB (g := gb138) (o := .cells #[.int .i64 ((rd_T34 y134 0).f0), .int .i64 ((rd_T34 y134 0).f1), .int .i64 x139002_29, .int .i64 ((rd_T34 y134 0).f3)] 34 (0, 0)) (by (with_reducible repeat (first | refine blk_drewN ?_ _ | refine blk_drew ?_ | refine blk_alloc ?_ _)); exact BK138.out) k_ hk⟩)); (case aO => exact (by (with_reducible repeat (first | apply Kd.R_alloc | apply Kd.R_drewN | apply Kd.R_drew)); exact HO173.out)); (case aS => exact (below_size (by repeat (first | (with_reducible first | exact HB.out | apply below_alloc | apply pw_below_drewN | apply below_drew1 | refine below_set ?_ GE138.out) | exact HB.out)))); (case aL => have := LMc69.out; omega); intro v179 w75 ho hb hg hat; rw [← Ny178.out] at ho; have n0_ := Aside0.mk (Kd.R_after (ok := (fun k_ => some k_ ≠ (v165 : Value).ownBlock ∧ k_ ≠ gb138)) (by (with_reducible repeat (first | apply Kd.R_alloc | apply Kd.R_drewN | apply Kd.R_drew)); exact Kd.R_mono HO_16.out (fun _ hk => ⟨⟨hk.1.2, hk.1.1⟩, hk.2⟩)) hg hat); have n1_ := Aside0.mk (blk_grown (g := gb138) (o := .cells #[.int .i64 ((rd_T34 y134 0).f0), .int .i64 ((rd_T34 y134 0).f1), .int .i64 x139002_29, .int .i64 ((rd_T34 y134 0).f3)] 34 (0, 0)) (by (with_reducible repeat (first | refine blk_drewN ?_ _ | refine blk_drew ?_ | refine blk_alloc ?_ _)); exact BK138.out) hg (Kd.R_away HO173.out (fun _ hk => hk.2.2))); have n2_ := Aside0.mk (Kd.R_after (ok := (fun k_ => some k_ ≠ (.slice (some ad163) x16_4.length co70 : Value).ownBlock ∧ k_ ≠ gb138)) (by (with_reducible repeat (first | apply Kd.R_alloc | apply Kd.R_drewN | apply Kd.R_drew)); exact HO166.out) hg hat); have n3_ := Aside0.mk (hb); have n4_ := Aside0.mk ((show Kd.C k34 w75 (some ad163) y167.length y167 from by rw [Ny167.out]; exact Kd.C_take (m := 0) ((Kd.R_reads' (Kd.R_after (ok := (fun k_ => some k_ ≠ (v165 : Value).ownBlock ∧ k_ ≠ gb138)) (by (with_reducible repeat (first | apply Kd.R_alloc | apply Kd.R_drewN | apply Kd.R_drew)); exact Kd.R_mono HO_16.out (fun _ hk => ⟨⟨hk.1.2, hk.1.1⟩, hk.2⟩)) hg hat)).2.2) KL72.out)); have n5_ := Aside0.mk ((show Kd.C k34 w75 A74 y174.length y174 from by rw [Ny174.out, KA74.out]; exact Kd.C_drop (m := ((ji66) : Int).toNat) (c := co70) ((Kd.R_reads' (Kd.R_after (ok := (fun k_ => some k_ ≠ (v165 : Value).ownBlock ∧ k_ ≠ gb138)) (by (with_reducible repeat (first | apply Kd.R_alloc | apply Kd.R_drewN | apply Kd.R_drew)); exact Kd.R_mono HO_16.out (fun _ hk => ⟨⟨hk.1.2, hk.1.1⟩, hk.2⟩)) hg hat)).2.2) KL74.out ((Kd.R_reads' (Kd.R_after (ok := (fun k_ => some k_ ≠ (v165 : Value).ownBlock ∧ k_ ≠ gb138)) (by (with_reducible repeat (first | apply Kd.R_alloc | apply Kd.R_drewN | apply Kd.R_drew)); exact Kd.R_mono HO_16.out (fun _ hk => ⟨⟨hk.1.2, hk.1.1⟩, hk.2⟩)) hg hat)).2.1))); have n6_ := Aside0.mk (ho); clear HO_16; clear BK138; clear HO166; clear HB; clear HR170; clear HR177; clear HO173; have HO_16 := n0_; have BK138 := n1_; have HO166 := n2_; have HB := n3_; have HR170 := n4_; have HR177 := n5_; have HO180 := n6_; clear n0_ n1_ n2_ n3_ n4_ n5_ n6_; clear ho hb hg hat))
                                              go_roundg k4
                                              case measure => have := HJ9.out; have := HJ21.out; have := HJ29.out; have := HK4.out; omega
                                              case rel => exact ⟨(y178), (y164), (wrap64 (x20_4 + 1)), (by first | rfl | (simp; done) | (simp [*]; done)), H', ⟨by have := HJ9.out; have := HJ21.out; have := HJ29.out; have := HK4.out; omega⟩, ⟨by (with_reducible repeat (first | apply Kd.R_alloc | apply Kd.R_drewN | apply Kd.R_drew)); exact Kd.R_mono HO180.out (fun _ hk => ⟨hk.2.1, hk.2.2⟩)⟩, ⟨by (with_reducible repeat (first | apply Kd.R_alloc | apply Kd.R_drewN | apply Kd.R_drew)); exact Kd.R_mono HO166.out (fun _ hk => ⟨hk.2, hk.1.2⟩)⟩, ⟨by (with_reducible repeat (first | refine blk_drewN ?_ _ | refine blk_drew ?_ | refine blk_alloc ?_ _)); exact BK138.out⟩, ⟨by repeat (first | (with_reducible first | exact HB.out | apply below_alloc | apply pw_below_drewN | apply below_drew1 | refine below_set ?_ GE138.out) | exact HB.out)⟩⟩
                                            · rw [if_neg c69] at H
                                              exact absurd H (by simp)
                                          · rw [if_neg c68] at H
                                            exact absurd H (by simp)
                                        · rw [if_neg c67] at H
                                          exact absurd H (by simp)
                                      · rw [if_neg c65] at H
                                        exact absurd H (by simp)
                                    · rw [if_neg c64] at H
                                      exact absurd H (by simp)
                                  · rw [if_neg c63] at H
                                    exact absurd H (by simp)
                                · rw [if_neg c62] at H
                                  exact absurd H (by simp)
                            · rw [if_neg c42] at H
                              exact absurd H (by simp)
                          · rw [if_neg c41] at H
                            have c41b0 : decide (x20_4 < (l1.length : Int)) = false := decide_eq_false c41
                            clear c41
                            by_cases c76 : 0 < (x16_4.length : Int)
                            · rw [if_pos c76] at H
                              have c76b0 : decide (0 < (x16_4.length : Int)) = true := decide_eq_true c76
                              have c76b1 : decide (0 < x16_4.length) = true := decide_eq_true (by omega)
                              clear c76
                              by_cases c77 : x19_4.length < 4398046511104
                              · rw [if_pos c77] at H
                                have LMc77 := Aside0.mk c77
                                clear c77
                                obtain ⟨y182, hy182⟩ : ∃ y_ : List (S34), y_ = (x19_4 ++ [(⟨(rd_T34 x16_4 0).f0, (rd_T34 x16_4 0).f1, (rd_T34 x16_4 0).f2, (rd_T34 x16_4 0).f3⟩ : S34)]) := ⟨_, rfl⟩
                                replace H : (if 0 ≤ (x16_4.length : Int) then ((some (x16_4.take 0 : List (S34))).bind fun y185 => (if ([] : List (S34)).length + y185.length < 4398046511104 then ((some (([] : List (S34)) ++ y185 : List (S34))).bind fun y189 => (if 0 ≤ ((0 : Int) + 1) then (if (0 + 1) ≤ (x16_4.length : Int) then ((some (x16_4.drop ((0 + 1) : Int).toNat : List (S34))).bind fun y192 => (if y189.length + y192.length < 4398046511104 then (lanternlaw09_PlanOrder.l0 k4 l0 l1 a3 a4 a5 (y189 ++ y192) y182 (wrap64 (x20_4 + 1))) else (none))) else (none)) else (none))) else (none))) else (none)) = some r := by first | (rw [hy182]; with_reducible exact H) | (have H2_ := (Option.bind_some _ _).symm.trans H; rw [hy182]; with_reducible exact H2_) | (have H2_ := (Option.bind_some _ _).symm.trans H; with_reducible exact H2_) | with_reducible exact H | (rw [hy182]; exact H) | exact H
                                have Ny182 := Aside0.mk hy182
                                clear hy182
                                by_cases c78 : 0 ≤ (x16_4.length : Int)
                                · rw [if_pos c78] at H
                                  have c78b0 := eq_true c78
                                  have c78b1 : decide (0 ≤ (x16_4.length : Int)) = true := decide_eq_true c78
                                  clear c78
                                  obtain ⟨y185, hy185⟩ : ∃ y_ : List (S34), y_ = (x16_4.take 0) := ⟨_, rfl⟩
                                  replace H : (if ([] : List (S34)).length + y185.length < 4398046511104 then ((some (([] : List (S34)) ++ y185 : List (S34))).bind fun y189 => (if 0 ≤ ((0 : Int) + 1) then (if (0 + 1) ≤ (x16_4.length : Int) then ((some (x16_4.drop ((0 + 1) : Int).toNat : List (S34))).bind fun y192 => (if y189.length + y192.length < 4398046511104 then (lanternlaw09_PlanOrder.l0 k4 l0 l1 a3 a4 a5 (y189 ++ y192) y182 (wrap64 (x20_4 + 1))) else (none))) else (none)) else (none))) else (none)) = some r := by first | (rw [hy185]; with_reducible exact H) | (have H2_ := (Option.bind_some _ _).symm.trans H; rw [hy185]; with_reducible exact H2_) | (have H2_ := (Option.bind_some _ _).symm.trans H; with_reducible exact H2_) | with_reducible exact H | (rw [hy185]; exact H) | exact H
                                  have Ny185 := Aside0.mk hy185
                                  clear hy185
                                  by_cases c79 : ([] : List (S34)).length + y185.length < 4398046511104
                                  · rw [if_pos c79] at H
                                    have LMc79 := Aside0.mk c79
                                    clear c79
                                    obtain ⟨y189, hy189⟩ : ∃ y_ : List (S34), y_ = (([] : List (S34)) ++ y185) := ⟨_, rfl⟩
                                    replace H : (if 0 ≤ ((0 : Int) + 1) then (if (0 + 1) ≤ (x16_4.length : Int) then ((some (x16_4.drop ((0 + 1) : Int).toNat : List (S34))).bind fun y192 => (if y189.length + y192.length < 4398046511104 then (lanternlaw09_PlanOrder.l0 k4 l0 l1 a3 a4 a5 (y189 ++ y192) y182 (wrap64 (x20_4 + 1))) else (none))) else (none)) else (none)) = some r := by first | (rw [hy189]; with_reducible exact H) | (have H2_ := (Option.bind_some _ _).symm.trans H; rw [hy189]; with_reducible exact H2_) | (have H2_ := (Option.bind_some _ _).symm.trans H; with_reducible exact H2_) | with_reducible exact H | (rw [hy189]; exact H) | exact H
                                    have Ny189 := Aside0.mk hy189
                                    clear hy189
                                    obtain ⟨ji80, hji80⟩ : ∃ j_ : Int, (0 + 1) = j_ := ⟨_, rfl⟩
                                    replace H : (if 0 ≤ (ji80) then (if (ji80) ≤ (x16_4.length : Int) then ((some (x16_4.drop ((ji80) : Int).toNat : List (S34))).bind fun y192 => (if y189.length + y192.length < 4398046511104 then (lanternlaw09_PlanOrder.l0 k4 l0 l1 a3 a4 a5 (y189 ++ y192) y182 (wrap64 (x20_4 + 1))) else (none))) else (none)) else (none)) = some r := by first | (rw [hji80] at H; exact H) | (simp only [hji80] at H ⊢; exact H)
                                    by_cases c81 : 0 ≤ (ji80)
                                    · rw [if_pos c81] at H
                                      have c81b0 := eq_true c81
                                      have c81b1 : decide (0 ≤ (ji80)) = true := decide_eq_true c81
                                      clear c81
                                      by_cases c82 : (ji80) ≤ (x16_4.length : Int)
                                      · rw [if_pos c82] at H
                                        have c82b0 := eq_true c82
                                        have c82b1 : decide ((ji80) ≤ (x16_4.length : Int)) = true := decide_eq_true c82
                                        clear c82
                                        obtain ⟨y192, hy192⟩ : ∃ y_ : List (S34), y_ = (x16_4.drop ((ji80) : Int).toNat) := ⟨_, rfl⟩
                                        replace H : (if y189.length + y192.length < 4398046511104 then (lanternlaw09_PlanOrder.l0 k4 l0 l1 a3 a4 a5 (y189 ++ y192) y182 (wrap64 (x20_4 + 1))) else (none)) = some r := by first | (rw [hy192]; with_reducible exact H) | (have H2_ := (Option.bind_some _ _).symm.trans H; rw [hy192]; with_reducible exact H2_) | (have H2_ := (Option.bind_some _ _).symm.trans H; with_reducible exact H2_) | with_reducible exact H | (rw [hy192]; exact H) | exact H
                                        have Ny192 := Aside0.mk hy192
                                        clear hy192
                                        by_cases c83 : y189.length + y192.length < 4398046511104
                                        · rw [if_pos c83] at H
                                          have LMc83 := Aside0.mk c83
                                          clear c83
                                          obtain ⟨y196, hy196⟩ : ∃ y_ : List (S34), y_ = (y189 ++ y192) := ⟨_, rfl⟩
                                          replace H : (lanternlaw09_PlanOrder.l0 k4 l0 l1 a3 a4 a5 y196 y182 (wrap64 (x20_4 + 1))) = some r := by first | (rw [hy196]; with_reducible exact H) | (have H2_ := (Option.bind_some _ _).symm.trans H; rw [hy196]; with_reducible exact H2_) | (have H2_ := (Option.bind_some _ _).symm.trans H; with_reducible exact H2_) | with_reducible exact H | (rw [hy196]; exact H) | exact H
                                          have Ny196 := Aside0.mk hy196
                                          clear hy196
                                          have H' := Aside0.mk H
                                          clear H
                                          obtain ⟨Ao84, co84, eo84⟩ := Kd.R_slice HO_16.out
                                          subst eo84
                                          have p181 : 0 ≤ (0 : Int) := (by omega)
                                          have q181 : 0 < (x16_4.length : Int) := of_decide_eq_true (by first | (with_reducible assumption) | assumption)
                                          obtain ⟨ad181, e181, hx181_0, hx181_1, hx181_2, hx181_3⟩ := at_T34 (Kd.R_reads' HO_16.out).2.2 0 p181 q181
                                          cases e181
                                          have qi181 : (0 < x16_4.length) = True := eq_true (by omega)
                                          (try rw [show ((0 : Int)).toNat = 0 from rfl] at hx181_0)
                                          (try rw [show 0 * 4 = 0 from rfl] at hx181_0)
                                          (try rw [Addr.add_zero'] at hx181_0)
                                          (try rw [show ((0 : Int)).toNat = 0 from rfl] at hx181_1)
                                          (try rw [show 0 * 4 = 0 from rfl] at hx181_1)
                                          (try rw [Addr.add_zero'] at hx181_1)
                                          (try rw [show ((0 : Int)).toNat = 0 from rfl] at hx181_2)
                                          (try rw [show 0 * 4 = 0 from rfl] at hx181_2)
                                          (try rw [Addr.add_zero'] at hx181_2)
                                          (try rw [show ((0 : Int)).toNat = 0 from rfl] at hx181_3)
                                          (try rw [show 0 * 4 = 0 from rfl] at hx181_3)
                                          (try rw [Addr.add_zero'] at hx181_3)
                                          replace p181 := eq_true p181
                                          replace q181 := eq_true q181
                                          go_wp2_with (first | ((with_reducible refine gate_builtin (b := .append) (xs := #[.tmp 128, .tmp 133]) rfl ?_); (try (refine gate_guard (by rfl) ?_; dsimp only)); at_builtin; refine Kd.R_append k34 (w0 := w) w.heap.size rfl (.tmp 128) (.tmp 133) 22 34 (.agg #[(.int .i64 0), (.int .i64 0), (.int .i64 0), (.int .i64 0)]) 32 rfl Try.underlying22 info34 rfl (by decide) (by omega) u19 x19_4 (⟨(rd_T34 x16_4 0).f0, (rd_T34 x16_4 0).f1, (rd_T34 x16_4 0).f2, (rd_T34 x16_4 0).f3⟩ : S34) [.int .i64 ((rd_T34 x16_4 0).f0), .int .i64 ((rd_T34 x16_4 0).f1), .int .i64 ((rd_T34 x16_4 0).f2), .int .i64 ((rd_T34 x16_4 0).f3)] (fun k_ => some k_ ≠ (.slice (some ad181) x16_4.length co84 : Value).ownBlock ∧ k_ ≠ gb138) (fun _ => False) rfl rfl ?aP (fun _ hk => hk.elim) ?aF ?aO ?aB ?aS ?aL ?_; (case aP => exact k34_mkM _ _ _ (⟨(rd_T34 x16_4 0).f0, (rd_T34 x16_4 0).f1, (rd_T34 x16_4 0).f2, (rd_T34 x16_4 0).f3⟩ : S34)); (case aB => exact (by repeat (first | (with_reducible first | exact HB.out | apply below_alloc | apply pw_below_drewN | apply below_drew1 | refine below_set ?_ GE138.out) | exact HB.out))); (case aF => exact (fun k_ hk => ⟨Kd.fresh' (Kd.R_lt (by (with_reducible repeat (first | apply Kd.R_alloc | apply Kd.R_drewN | apply Kd.R_drew)); exact HO_16.out)) k_ hk, Kd.freshB (g := gb138) (o := .cells #[.int .i64 ((rd_T34 y134 0).f0), .int .i64 ((rd_T34 y134 0).f1), .int .i64 x139002_29, .int .i64 ((rd_T34 y134 0).f3)] 34 (0, 0)) (by (with_reducible repeat (first | refine blk_drewN ?_ _ | refine blk_drew ?_ | refine blk_alloc ?_ _)); exact BK138.out) k_ hk⟩)); (case aO => exact (by (with_reducible repeat (first | apply Kd.R_alloc | apply Kd.R_drewN | apply Kd.R_drew)); exact HO_19.out)); (case aS => exact (below_size (by repeat (first | (with_reducible first | exact HB.out | apply below_alloc | apply pw_below_drewN | apply below_drew1 | refine below_set ?_ GE138.out) | exact HB.out)))); (case aL => have := LMc77.out; omega); intro v183 w85 ho hb hg hat; rw [← Ny182.out] at ho; have n0_ := Aside0.mk (Kd.R_after (ok := (fun k_ => k_ ≠ gb138)) (by (with_reducible repeat (first | apply Kd.R_alloc | apply Kd.R_drewN | apply Kd.R_drew)); exact Kd.R_mono HO_16.out (fun _ hk => ⟨hk.2, hk.1⟩)) hg hat); have n1_ := Aside0.mk (blk_grown (g := gb138) (o := .cells #[.int .i64 ((rd_T34 y134 0).f0), .int .i64 ((rd_T34 y134 0).f1), .int .i64 x139002_29, .int .i64 ((rd_T34 y134 0).f3)] 34 (0, 0)) (by (with_reducible repeat (first | refine blk_drewN ?_ _ | refine blk_drew ?_ | refine blk_alloc ?_ _)); exact BK138.out) hg (Kd.R_away HO_19.out (fun _ hk => hk.2))); have n2_ := Aside0.mk (hb); have n3_ := Aside0.mk (ho); clear HO_16; clear BK138; clear HB; clear HO_19; have HO_16 := n0_; have BK138 := n1_; have HB := n2_; have HO184 := n3_; clear n0_ n1_ n2_ n3_; clear ho hb hg hat; have q86 : (0 : Int) ≤ ((x16_4.length : Int) : Int) := of_decide_eq_true (by first | (with_reducible assumption) | assumption); obtain ⟨i086, hi086, _, hsz86, _⟩ := info_parts info34; have hroom86 : x16_4.length ≤ co84 := (Kd.R_reads' HO_16.out).2.1; have hC86 : Kd.C k34 _ (some ad181) x16_4.length x16_4 := (Kd.R_reads' HO_16.out).2.2; have hcut86 := cut_to (P := Try.prog) 22 34 .i64 Try.underlying22 hi086 (some ad181) x16_4.length co84 0 (by omega) q86 hroom86; have hr86 := Kd.C_take (m := 0) hC86 (by omega); have hy86 : y185.length = (0 : Int).toNat := (by rw [Ny185.out, List.length_take]; omega); rw [← Ny185.out] at hr86; rw [← hy86] at hcut86; have HR188 := Aside0.mk hr86; have HC188 := Aside0.mk (show y185.length ≤ co84 from by omega); clear hr86 hC86 hroom86 hi086 hsz86; have KY86 := Aside0.mk hy86; clear hy86; have KL86 := Aside0.mk (show 0 ≤ x16_4.length from by omega); replace q86 := eq_true q86) | ((with_reducible refine gate_builtin (b := .append) (xs := #[.tmp 135, .tmp 138]) rfl ?_); (try (refine gate_guard (by rfl) ?_; dsimp only)); at_builtin; refine Kd.R_append_rows k34 (w0 := w) w.heap.size rfl (.tmp 135) (.tmp 138) 22 34 (.agg #[(.int .i64 0), (.int .i64 0), (.int .i64 0), (.int .i64 0)]) 32 rfl Try.underlying22 info34 rfl (by decide) (by omega) (.slice none 0 0) ([] : List (S34)) y185 _ _ _ (fun k_ => some k_ ≠ (.slice (some ad181) x16_4.length co84 : Value).ownBlock ∧ some k_ ≠ (v183 : Value).ownBlock ∧ k_ ≠ gb138) (fun _ => False) rfl rfl ?aO ?aR (fun _ _ h => h) (fun _ h => h.elim) ?aF ?aB ?aS ?aL ?_; (case aR => repeat (first | exact (by repeat (first | (with_reducible exact HR188.out) | (with_reducible refine Kd.C_alloc ?_ _) | (with_reducible refine Kd.C_drewN ?_ _) | (with_reducible refine Kd.C_drew ?_) | exact HR188.out)) | (with_reducible refine Kd.C_alloc ?_ _) | (with_reducible refine Kd.C_drewN ?_ _) | (with_reducible refine Kd.C_drew ?_))); (case aB => exact (by repeat (first | (with_reducible first | exact HB.out | apply below_alloc | apply pw_below_drewN | apply below_drew1 | refine below_set ?_ GE138.out) | exact HB.out))); (case aF => exact (fun k_ hk => ⟨Kd.fresh' (Kd.R_lt (by (with_reducible repeat (first | apply Kd.R_alloc | apply Kd.R_drewN | apply Kd.R_drew)); exact HO_16.out)) k_ hk, Kd.fresh' (Kd.R_lt (by (with_reducible repeat (first | apply Kd.R_alloc | apply Kd.R_drewN | apply Kd.R_drew)); exact HO184.out)) k_ hk, Kd.freshB (g := gb138) (o := .cells #[.int .i64 ((rd_T34 y134 0).f0), .int .i64 ((rd_T34 y134 0).f1), .int .i64 x139002_29, .int .i64 ((rd_T34 y134 0).f3)] 34 (0, 0)) (by (with_reducible repeat (first | refine blk_drewN ?_ _ | refine blk_drew ?_ | refine blk_alloc ?_ _)); exact BK138.out) k_ hk⟩)); (case aO => exact ((Kd.R_nil _ _ _ _ (fun k_ => some k_ ≠ (.slice (some ad181) x16_4.length co84 : Value).ownBlock ∧ some k_ ≠ (v183 : Value).ownBlock ∧ k_ ≠ gb138)))); (case aS => exact (below_size (by repeat (first | (with_reducible first | exact HB.out | apply below_alloc | apply pw_below_drewN | apply below_drew1 | refine below_set ?_ GE138.out) | exact HB.out)))); (case aL => have := LMc79.out; omega); intro v190 w87 ho hb hg hat; rw [← Ny189.out] at ho; have n0_ := Aside0.mk (Kd.R_after (Kd.R_apart_nil (by (with_reducible repeat (first | apply Kd.R_alloc | apply Kd.R_drewN | apply Kd.R_drew)); exact HO_16.out)) hg hat); have n1_ := Aside0.mk (blk_grown (g := gb138) (o := .cells #[.int .i64 ((rd_T34 y134 0).f0), .int .i64 ((rd_T34 y134 0).f1), .int .i64 x139002_29, .int .i64 ((rd_T34 y134 0).f3)] 34 (0, 0)) (by (with_reducible repeat (first | refine blk_drewN ?_ _ | refine blk_drew ?_ | refine blk_alloc ?_ _)); exact BK138.out) hg (by simp [Value.ownBlock])); have n2_ := Aside0.mk (Kd.R_after (Kd.R_apart_nil (by (with_reducible repeat (first | apply Kd.R_alloc | apply Kd.R_drewN | apply Kd.R_drew)); exact HO184.out)) hg hat); have n3_ := Aside0.mk (hb); have n4_ := Aside0.mk ((show Kd.C k34 w87 (some ad181) y185.length y185 from by rw [Ny185.out]; exact Kd.C_take (m := 0) ((Kd.R_reads' (Kd.R_after (Kd.R_apart_nil (by (with_reducible repeat (first | apply Kd.R_alloc | apply Kd.R_drewN | apply Kd.R_drew)); exact HO_16.out)) hg hat)).2.2) KL86.out)); have n5_ := Aside0.mk (ho); clear HO_16; clear BK138; clear HO184; clear HB; clear HR188; have HO_16 := n0_; have BK138 := n1_; have HO184 := n2_; have HB := n3_; have HR188 := n4_; have HO191 := n5_; clear n0_ n1_ n2_ n3_ n4_ n5_; clear ho hb hg hat; have q88 : ((ji80) : Int) ≤ ((x16_4.length : Int) : Int) := of_decide_eq_true (by first | (with_reducible assumption) | assumption); obtain ⟨i088, hi088, _, hsz88, _⟩ := info_parts info34; have hroom88 : x16_4.length ≤ co84 := (Kd.R_reads' HO_16.out).2.1; have hC88 : Kd.C k34 _ (some ad181) x16_4.length x16_4 := (Kd.R_reads' HO_16.out).2.2; have q088 : (0 : Int) ≤ ((ji80) : Int) := of_decide_eq_true (by first | (with_reducible assumption) | assumption); have hcut88 := cut_from (P := Try.prog) 22 34 .i64 Try.underlying22 hi088 4 hsz88 (some ad181) x16_4.length co84 (ji80) q088 q88; have hr88 := Kd.C_drop (m := ((ji80) : Int).toNat) (c := co84) hC88 (by omega) hroom88; obtain ⟨A88, hA88⟩ : ∃ A1, A1 = (if co84 = ((ji80) : Int).toNat then (some ad181) else ((some ad181) : Option Addr).map (·.add (((ji80) : Int).toNat * 4))) := ⟨_, rfl⟩; obtain ⟨c88, hc88⟩ : ∃ c1, c1 = co84 - ((ji80) : Int).toNat := ⟨_, rfl⟩; have hy88 : y192.length = x16_4.length - ((ji80) : Int).toNat := (by rw [Ny192.out, List.length_drop] <;> omega); rw [show (x16_4).drop ((ji80) : Int).toNat = y192 from Ny192.out.symm] at hr88; replace hr88 : Kd.C k34 _ A88 y192.length y192 := (by rw [hA88]; exact hr88); rw [← hy88, ← hA88, ← hc88] at hcut88; have HR195 := Aside0.mk hr88; have HC195 := Aside0.mk (show y192.length ≤ c88 from by rw [hy88, hc88]; exact Nat.sub_le_sub_right hroom88 _); clear hr88 hC88 hroom88 hi088 hsz88 hc88; have KY88 := Aside0.mk hy88; have KA88 := Aside0.mk hA88; clear hy88 hA88; have KL88 := Aside0.mk (show ((ji80) : Int).toNat ≤ x16_4.length from by omega); replace q88 := eq_true q88) | ((with_reducible refine gate_builtin (b := .append) (xs := #[.tmp 140, .tmp 144]) rfl ?_); (try (refine gate_guard (by rfl) ?_; dsimp only)); at_builtin; refine Kd.R_append_rows k34 (w0 := w) w.heap.size rfl (.tmp 140) (.tmp 144) 22 34 (.agg #[(.int .i64 0), (.int .i64 0), (.int .i64 0), (.int .i64 0)]) 32 rfl Try.underlying22 info34 rfl (by decide) (by omega) v190 y189 y192 _ _ _ (fun k_ => some k_ ≠ (.slice (some ad181) x16_4.length co84 : Value).ownBlock ∧ some k_ ≠ (v183 : Value).ownBlock ∧ k_ ≠ gb138) (fun _ => False) rfl rfl ?aO ?aR (fun _ _ h => h) (fun _ h => h.elim) ?aF ?aB ?aS ?aL ?_; (case aR => repeat (first | exact (by repeat (first | (with_reducible exact HR195.out) | (with_reducible refine Kd.C_alloc ?_ _) | (with_reducible refine Kd.C_drewN ?_ _) | (with_reducible refine Kd.C_drew ?_) | exact HR195.out)) | (with_reducible refine Kd.C_alloc ?_ _) | (with_reducible refine Kd.C_drewN ?_ _) | (with_reducible refine Kd.C_drew ?_))); (case aB => exact (by repeat (first | (with_reducible first | exact HB.out | apply below_alloc | apply pw_below_drewN | apply below_drew1 | refine below_set ?_ GE138.out) | exact HB.out))); (case aF => exact (fun k_ hk => ⟨Kd.fresh' (Kd.R_lt (by (with_reducible repeat (first | apply Kd.R_alloc | apply Kd.R_drewN | apply Kd.R_drew)); exact HO_16.out)) k_ hk, Kd.fresh' (Kd.R_lt (by (with_reducible repeat (first | apply Kd.R_alloc | apply Kd.R_drewN | apply Kd.R_drew)); exact HO184.out)) k_ hk, Kd.freshB (g := gb138) (o := .cells #[.int .i64 ((rd_T34 y134 0).f0), .int .i64 ((rd_T34 y134 0).f1), .int .i64 x139002_29, .int .i64 ((rd_T34 y134 0).f3)] 34 (0, 0)) (by (with_reducible repeat (first | refine blk_drewN ?_ _ | refine blk_drew ?_ | refine blk_alloc ?_ _)); exact BK138.out) k_ hk⟩)); (case aO => exact (by (with_reducible repeat (first | apply Kd.R_alloc | apply Kd.R_drewN | apply Kd.R_drew)); exact HO191.out)); (case aS => exact (below_size (by repeat (first | (with_reducible first | exact HB.out | apply below_alloc | apply pw_below_drewN | apply below_drew1 | refine below_set ?_ GE138.out) | exact HB.out)))); (case aL => have := LMc83.out; omega); intro v197 w89 ho hb hg hat; rw [← Ny196.out] at ho; have n0_ := Aside0.mk (Kd.R_after (ok := (fun k_ => some k_ ≠ (v183 : Value).ownBlock ∧ k_ ≠ gb138)) (by (with_reducible repeat (first | apply Kd.R_alloc | apply Kd.R_drewN | apply Kd.R_drew)); exact Kd.R_mono HO_16.out (fun _ hk => ⟨⟨hk.1.2, hk.1.1⟩, hk.2⟩)) hg hat); have n1_ := Aside0.mk (blk_grown (g := gb138) (o := .cells #[.int .i64 ((rd_T34 y134 0).f0), .int .i64 ((rd_T34 y134 0).f1), .int .i64 x139002_29, .int .i64 ((rd_T34 y134 0).f3)] 34 (0, 0)) (by (with_reducible repeat (first | refine blk_drewN ?_ _ | refine blk_drew ?_ | refine blk_alloc ?_ _)); exact BK138.out) hg (Kd.R_away HO191.out (fun _ hk => hk.2.2))); have n2_ := Aside0.mk (Kd.R_after (ok := (fun k_ => some k_ ≠ (.slice (some ad181) x16_4.length co84 : Value).ownBlock ∧ k_ ≠ gb138)) (by (with_reducible repeat (first | apply Kd.R_alloc | apply Kd.R_drewN | apply Kd.R_drew)); exact HO184.out) hg hat); have n3_ := Aside0.mk (hb); have n4_ := Aside0.mk ((show Kd.C k34 w89 (some ad181) y185.length y185 from by rw [Ny185.out]; exact Kd.C_take (m := 0) ((Kd.R_reads' (Kd.R_after (ok := (fun k_ => some k_ ≠ (v183 : Value).ownBlock ∧ k_ ≠ gb138)) (by (with_reducible repeat (first | apply Kd.R_alloc | apply Kd.R_drewN | apply Kd.R_drew)); exact Kd.R_mono HO_16.out (fun _ hk => ⟨⟨hk.1.2, hk.1.1⟩, hk.2⟩)) hg hat)).2.2) KL86.out)); have n5_ := Aside0.mk ((show Kd.C k34 w89 A88 y192.length y192 from by rw [Ny192.out, KA88.out]; exact Kd.C_drop (m := ((ji80) : Int).toNat) (c := co84) ((Kd.R_reads' (Kd.R_after (ok := (fun k_ => some k_ ≠ (v183 : Value).ownBlock ∧ k_ ≠ gb138)) (by (with_reducible repeat (first | apply Kd.R_alloc | apply Kd.R_drewN | apply Kd.R_drew)); exact Kd.R_mono HO_16.out (fun _ hk => ⟨⟨hk.1.2, hk.1.1⟩, hk.2⟩)) hg hat)).2.2) KL88.out ((Kd.R_reads' (Kd.R_after (ok := (fun k_ => some k_ ≠ (v183 : Value).ownBlock ∧ k_ ≠ gb138)) (by (with_reducible repeat (first | apply Kd.R_alloc | apply Kd.R_drewN | apply Kd.R_drew)); exact Kd.R_mono HO_16.out (fun _ hk => ⟨⟨hk.1.2, hk.1.1⟩, hk.2⟩)) hg hat)).2.1))); have n6_ := Aside0.mk (ho); clear HO_16; clear BK138; clear HO184; clear HB; clear HR188; clear HR195; clear HO191; have HO_16 := n0_; have BK138 := n1_; have HO184 := n2_; have HB := n3_; have HR188 := n4_; have HR195 := n5_; have HO198 := n6_; clear n0_ n1_ n2_ n3_ n4_ n5_ n6_; clear ho hb hg hat))
                                          go_roundg k4
                                          case measure => have := HJ9.out; have := HJ21.out; have := HJ29.out; have := HK4.out; omega
                                          case rel => exact ⟨(y196), (y182), (wrap64 (x20_4 + 1)), (by first | rfl | (simp; done) | (simp [*]; done)), H', ⟨by have := HJ9.out; have := HJ21.out; have := HJ29.out; have := HK4.out; omega⟩, ⟨by (with_reducible repeat (first | apply Kd.R_alloc | apply Kd.R_drewN | apply Kd.R_drew)); exact Kd.R_mono HO198.out (fun _ hk => ⟨hk.2.1, hk.2.2⟩)⟩, ⟨by (with_reducible repeat (first | apply Kd.R_alloc | apply Kd.R_drewN | apply Kd.R_drew)); exact Kd.R_mono HO184.out (fun _ hk => ⟨hk.2, hk.1.2⟩)⟩, ⟨by (with_reducible repeat (first | refine blk_drewN ?_ _ | refine blk_drew ?_ | refine blk_alloc ?_ _)); exact BK138.out⟩, ⟨by repeat (first | (with_reducible first | exact HB.out | apply below_alloc | apply pw_below_drewN | apply below_drew1 | refine below_set ?_ GE138.out) | exact HB.out)⟩⟩
                                        · rw [if_neg c83] at H
                                          exact absurd H (by simp)
                                      · rw [if_neg c82] at H
                                        exact absurd H (by simp)
                                    · rw [if_neg c81] at H
                                      exact absurd H (by simp)
                                  · rw [if_neg c79] at H
                                    exact absurd H (by simp)
                                · rw [if_neg c78] at H
                                  exact absurd H (by simp)
                              · rw [if_neg c77] at H
                                exact absurd H (by simp)
                            · rw [if_neg c76] at H
                              exact absurd H (by simp)
                        · rw [if_neg c40] at H
                          have c40b0 : decide (0 < (x16_4.length : Int)) = false := decide_eq_false c40
                          have c40b1 : decide (0 < x16_4.length) = false := decide_eq_false (by omega)
                          clear c40
                          replace H := Option.bind_eq_some_iff.mp H
                          obtain ⟨t199, A900, H⟩ := H
                          replace H : ((plan_Rate.f k4 l0 a3 a4).bind fun t200 => ((plan_Rate.f k4 x19_4 a3 a4).bind fun t201 => ((plan_Next.f k4 l0 a3 a4).bind fun t202 => ((plan_Next.f k4 x19_4 a3 a4).bind fun t203 => ((plan_Total.f k4 l0 a3 0 a4).bind fun t204 => ((plan_Total.f k4 x19_4 a3 0 a4).bind fun t205 => ((plan_When.f k4 l0 a3 a4 a5).bind fun t206 => ((plan_When.f k4 x19_4 a3 a4 a5).bind fun t207 => (if t199 = 0 then (if t200 = t201 then (if t202 = t203 then (if t204 = t205 then (some (t206 == t207)) else (some false)) else (some false)) else (some false)) else (some false)))))))))) = some r := H
                          have A90 := Aside0.mk A900
                          clear A900
                          replace H := Option.bind_eq_some_iff.mp H
                          obtain ⟨t200, A910, H⟩ := H
                          replace H : ((plan_Rate.f k4 x19_4 a3 a4).bind fun t201 => ((plan_Next.f k4 l0 a3 a4).bind fun t202 => ((plan_Next.f k4 x19_4 a3 a4).bind fun t203 => ((plan_Total.f k4 l0 a3 0 a4).bind fun t204 => ((plan_Total.f k4 x19_4 a3 0 a4).bind fun t205 => ((plan_When.f k4 l0 a3 a4 a5).bind fun t206 => ((plan_When.f k4 x19_4 a3 a4 a5).bind fun t207 => (if t199 = 0 then (if t200 = t201 then (if t202 = t203 then (if t204 = t205 then (some (t206 == t207)) else (some false)) else (some false)) else (some false)) else (some false))))))))) = some r := H
                          have A91 := Aside0.mk A910
                          clear A910
                          replace H := Option.bind_eq_some_iff.mp H
                          obtain ⟨t201, A920, H⟩ := H
                          replace H : ((plan_Next.f k4 l0 a3 a4).bind fun t202 => ((plan_Next.f k4 x19_4 a3 a4).bind fun t203 => ((plan_Total.f k4 l0 a3 0 a4).bind fun t204 => ((plan_Total.f k4 x19_4 a3 0 a4).bind fun t205 => ((plan_When.f k4 l0 a3 a4 a5).bind fun t206 => ((plan_When.f k4 x19_4 a3 a4 a5).bind fun t207 => (if t199 = 0 then (if t200 = t201 then (if t202 = t203 then (if t204 = t205 then (some (t206 == t207)) else (some false)) else (some false)) else (some false)) else (some false)))))))) = some r := H
                          have A92 := Aside0.mk A920
                          clear A920
                          replace H := Option.bind_eq_some_iff.mp H
                          obtain ⟨t202, A930, H⟩ := H
                          replace H : ((plan_Next.f k4 x19_4 a3 a4).bind fun t203 => ((plan_Total.f k4 l0 a3 0 a4).bind fun t204 => ((plan_Total.f k4 x19_4 a3 0 a4).bind fun t205 => ((plan_When.f k4 l0 a3 a4 a5).bind fun t206 => ((plan_When.f k4 x19_4 a3 a4 a5).bind fun t207 => (if t199 = 0 then (if t200 = t201 then (if t202 = t203 then (if t204 = t205 then (some (t206 == t207)) else (some false)) else (some false)) else (some false)) else (some false))))))) = some r := H
                          have A93 := Aside0.mk A930
                          clear A930
                          replace H := Option.bind_eq_some_iff.mp H
                          obtain ⟨t203, A940, H⟩ := H
                          replace H : ((plan_Total.f k4 l0 a3 0 a4).bind fun t204 => ((plan_Total.f k4 x19_4 a3 0 a4).bind fun t205 => ((plan_When.f k4 l0 a3 a4 a5).bind fun t206 => ((plan_When.f k4 x19_4 a3 a4 a5).bind fun t207 => (if t199 = 0 then (if t200 = t201 then (if t202 = t203 then (if t204 = t205 then (some (t206 == t207)) else (some false)) else (some false)) else (some false)) else (some false)))))) = some r := H
                          have A94 := Aside0.mk A940
                          clear A940
                          replace H := Option.bind_eq_some_iff.mp H
                          obtain ⟨t204, A950, H⟩ := H
                          replace H : ((plan_Total.f k4 x19_4 a3 0 a4).bind fun t205 => ((plan_When.f k4 l0 a3 a4 a5).bind fun t206 => ((plan_When.f k4 x19_4 a3 a4 a5).bind fun t207 => (if t199 = 0 then (if t200 = t201 then (if t202 = t203 then (if t204 = t205 then (some (t206 == t207)) else (some false)) else (some false)) else (some false)) else (some false))))) = some r := H
                          have A95 := Aside0.mk A950
                          clear A950
                          replace H := Option.bind_eq_some_iff.mp H
                          obtain ⟨t205, A960, H⟩ := H
                          replace H : ((plan_When.f k4 l0 a3 a4 a5).bind fun t206 => ((plan_When.f k4 x19_4 a3 a4 a5).bind fun t207 => (if t199 = 0 then (if t200 = t201 then (if t202 = t203 then (if t204 = t205 then (some (t206 == t207)) else (some false)) else (some false)) else (some false)) else (some false)))) = some r := H
                          have A96 := Aside0.mk A960
                          clear A960
                          replace H := Option.bind_eq_some_iff.mp H
                          obtain ⟨t206, A970, H⟩ := H
                          replace H : ((plan_When.f k4 x19_4 a3 a4 a5).bind fun t207 => (if t199 = 0 then (if t200 = t201 then (if t202 = t203 then (if t204 = t205 then (some (t206 == t207)) else (some false)) else (some false)) else (some false)) else (some false))) = some r := H
                          have A97 := Aside0.mk A970
                          clear A970
                          replace H := Option.bind_eq_some_iff.mp H
                          obtain ⟨t207, A980, H⟩ := H
                          replace H : (if t199 = 0 then (if t200 = t201 then (if t202 = t203 then (if t204 = t205 then (some (t206 == t207)) else (some false)) else (some false)) else (some false)) else (some false)) = some r := H
                          have A98 := Aside0.mk A980
                          clear A980
                          by_cases c99 : t199 = 0
                          · rw [if_pos c99] at H
                            have c99b0 : (t199 == 0) = true := beq_iff_eq.mpr c99
                            have c99b1 : (t199 != 0) = false := bne_eq_false_iff_eq.mpr c99
                            clear c99
                            by_cases c100 : t200 = t201
                            · rw [if_pos c100] at H
                              have c100b0 : (t200 == t201) = true := beq_iff_eq.mpr c100
                              have c100b1 : (t200 != t201) = false := bne_eq_false_iff_eq.mpr c100
                              clear c100
                              by_cases c101 : t202 = t203
                              · rw [if_pos c101] at H
                                have c101b0 : (t202 == t203) = true := beq_iff_eq.mpr c101
                                have c101b1 : (t202 != t203) = false := bne_eq_false_iff_eq.mpr c101
                                clear c101
                                by_cases c102 : t204 = t205
                                · rw [if_pos c102] at H
                                  have c102b0 : (t204 == t205) = true := beq_iff_eq.mpr c102
                                  have c102b1 : (t204 != t205) = false := bne_eq_false_iff_eq.mpr c102
                                  clear c102
                                  obtain rfl := Option.some.inj H
                                  obtain ⟨Ao103, co103, eo103⟩ := Kd.R_slice HO_16.out
                                  subst eo103
                                  obtain ⟨Ao104, co104, eo104⟩ := Kd.R_slice HO_19.out
                                  subst eo104
                                  go_wp2_with (first | (go_at_call 8; (with_reducible refine (plan_Right.calls k4 _ _ x19_4 t199 _ ?side1 ?side2 A90.out).mono ?_); (case side1 => repeat (first | exact (Kd.R_reads' HO_19.out).2.2 | (with_reducible refine Kd.C_alloc ?_ _) | (with_reducible refine Kd.C_drewN ?_ _) | (with_reducible refine Kd.C_drew ?_))); (case side2 => exact (Kd.R_reads' HO_19.out).2.1); rintro e w105 ⟨rfl, hb⟩; have n0_ := Aside0.mk (Kd.R_below (by (with_reducible repeat (first | apply Kd.R_alloc | apply Kd.R_drewN | apply Kd.R_drew)); exact HO_16.out) hb); have n1_ := Aside0.mk (Kd.R_below (by (with_reducible repeat (first | apply Kd.R_alloc | apply Kd.R_drewN | apply Kd.R_drew)); exact HO_19.out) hb); have n2_ := Aside0.mk (blk_below (g := gb138) (o := .cells #[.int .i64 ((rd_T34 y134 0).f0), .int .i64 ((rd_T34 y134 0).f1), .int .i64 x139002_29, .int .i64 ((rd_T34 y134 0).f3)] 34 (0, 0)) (by (with_reducible repeat (first | refine blk_drewN ?_ _ | refine blk_drew ?_ | refine blk_alloc ?_ _)); exact BK138.out) hb); have n3_ := Aside0.mk (below_step (by repeat (first | (with_reducible first | exact HB.out | apply below_alloc | apply pw_below_drewN | apply below_drew1 | refine below_set ?_ GE138.out) | exact HB.out)) hb); clear HO_16; clear HO_19; clear BK138; clear HB; have HO_16 := n0_; have HO_19 := n1_; have BK138 := n2_; have HB := n3_; clear n0_ n1_ n2_ n3_; (try clear hb); (try clear hb2); (try clear hk); (try clear hi)) | (go_at_call 13; (with_reducible refine (plan_Rate.calls k4 _ _ l0 a3 a4 t200 _ ?side1 ?side2 A91.out).mono ?_); (case side1 => repeat (first | exact (Kd.C_below HR0.out HB.out) | (with_reducible refine Kd.C_alloc ?_ _) | (with_reducible refine Kd.C_drewN ?_ _) | (with_reducible refine Kd.C_drew ?_))); (case side2 => exact HC0.out); rintro e w106 ⟨rfl, hb⟩; have n0_ := Aside0.mk (Kd.R_below (by (with_reducible repeat (first | apply Kd.R_alloc | apply Kd.R_drewN | apply Kd.R_drew)); exact HO_16.out) hb); have n1_ := Aside0.mk (Kd.R_below (by (with_reducible repeat (first | apply Kd.R_alloc | apply Kd.R_drewN | apply Kd.R_drew)); exact HO_19.out) hb); have n2_ := Aside0.mk (blk_below (g := gb138) (o := .cells #[.int .i64 ((rd_T34 y134 0).f0), .int .i64 ((rd_T34 y134 0).f1), .int .i64 x139002_29, .int .i64 ((rd_T34 y134 0).f3)] 34 (0, 0)) (by (with_reducible repeat (first | refine blk_drewN ?_ _ | refine blk_drew ?_ | refine blk_alloc ?_ _)); exact BK138.out) hb); have n3_ := Aside0.mk (below_step (by repeat (first | (with_reducible first | exact HB.out | apply below_alloc | apply pw_below_drewN | apply below_drew1 | refine below_set ?_ GE138.out) | exact HB.out)) hb); clear HO_16; clear HO_19; clear BK138; clear HB; have HO_16 := n0_; have HO_19 := n1_; have BK138 := n2_; have HB := n3_; clear n0_ n1_ n2_ n3_; (try clear hb); (try clear hb2); (try clear hk); (try clear hi)) | (go_at_call 13; (with_reducible refine (plan_Rate.calls k4 _ _ x19_4 a3 a4 t201 _ ?side1 ?side2 A92.out).mono ?_); (case side1 => repeat (first | exact (Kd.R_reads' HO_19.out).2.2 | (with_reducible refine Kd.C_alloc ?_ _) | (with_reducible refine Kd.C_drewN ?_ _) | (with_reducible refine Kd.C_drew ?_))); (case side2 => exact (Kd.R_reads' HO_19.out).2.1); rintro e w107 ⟨rfl, hb⟩; have n0_ := Aside0.mk (Kd.R_below (by (with_reducible repeat (first | apply Kd.R_alloc | apply Kd.R_drewN | apply Kd.R_drew)); exact HO_16.out) hb); have n1_ := Aside0.mk (Kd.R_below (by (with_reducible repeat (first | apply Kd.R_alloc | apply Kd.R_drewN | apply Kd.R_drew)); exact HO_19.out) hb); have n2_ := Aside0.mk (blk_below (g := gb138) (o := .cells #[.int .i64 ((rd_T34 y134 0).f0), .int .i64 ((rd_T34 y134 0).f1), .int .i64 x139002_29, .int .i64 ((rd_T34 y134 0).f3)] 34 (0, 0)) (by (with_reducible repeat (first | refine blk_drewN ?_ _ | refine blk_drew ?_ | refine blk_alloc ?_ _)); exact BK138.out) hb); have n3_ := Aside0.mk (below_step (by repeat (first | (with_reducible first | exact HB.out | apply below_alloc | apply pw_below_drewN | apply below_drew1 | refine below_set ?_ GE138.out) | exact HB.out)) hb); clear HO_16; clear HO_19; clear BK138; clear HB; have HO_16 := n0_; have HO_19 := n1_; have BK138 := n2_; have HB := n3_; clear n0_ n1_ n2_ n3_; (try clear hb); (try clear hb2); (try clear hk); (try clear hi)) | (go_at_call 17; (with_reducible refine (plan_Next.calls k4 _ _ l0 a3 a4 t202 _ ?side1 ?side2 A93.out).mono ?_); (case side1 => repeat (first | exact (Kd.C_below HR0.out HB.out) | (with_reducible refine Kd.C_alloc ?_ _) | (with_reducible refine Kd.C_drewN ?_ _) | (with_reducible refine Kd.C_drew ?_))); (case side2 => exact HC0.out); rintro e w108 ⟨rfl, hb⟩; have n0_ := Aside0.mk (Kd.R_below (by (with_reducible repeat (first | apply Kd.R_alloc | apply Kd.R_drewN | apply Kd.R_drew)); exact HO_16.out) hb); have n1_ := Aside0.mk (Kd.R_below (by (with_reducible repeat (first | apply Kd.R_alloc | apply Kd.R_drewN | apply Kd.R_drew)); exact HO_19.out) hb); have n2_ := Aside0.mk (blk_below (g := gb138) (o := .cells #[.int .i64 ((rd_T34 y134 0).f0), .int .i64 ((rd_T34 y134 0).f1), .int .i64 x139002_29, .int .i64 ((rd_T34 y134 0).f3)] 34 (0, 0)) (by (with_reducible repeat (first | refine blk_drewN ?_ _ | refine blk_drew ?_ | refine blk_alloc ?_ _)); exact BK138.out) hb); have n3_ := Aside0.mk (below_step (by repeat (first | (with_reducible first | exact HB.out | apply below_alloc | apply pw_below_drewN | apply below_drew1 | refine below_set ?_ GE138.out) | exact HB.out)) hb); clear HO_16; clear HO_19; clear BK138; clear HB; have HO_16 := n0_; have HO_19 := n1_; have BK138 := n2_; have HB := n3_; clear n0_ n1_ n2_ n3_; (try clear hb); (try clear hb2); (try clear hk); (try clear hi)) | (go_at_call 17; (with_reducible refine (plan_Next.calls k4 _ _ x19_4 a3 a4 t203 _ ?side1 ?side2 A94.out).mono ?_); (case side1 => repeat (first | exact (Kd.R_reads' HO_19.out).2.2 | (with_reducible refine Kd.C_alloc ?_ _) | (with_reducible refine Kd.C_drewN ?_ _) | (with_reducible refine Kd.C_drew ?_))); (case side2 => exact (Kd.R_reads' HO_19.out).2.1); rintro e w109 ⟨rfl, hb⟩; have n0_ := Aside0.mk (Kd.R_below (by (with_reducible repeat (first | apply Kd.R_alloc | apply Kd.R_drewN | apply Kd.R_drew)); exact HO_16.out) hb); have n1_ := Aside0.mk (Kd.R_below (by (with_reducible repeat (first | apply Kd.R_alloc | apply Kd.R_drewN | apply Kd.R_drew)); exact HO_19.out) hb); have n2_ := Aside0.mk (blk_below (g := gb138) (o := .cells #[.int .i64 ((rd_T34 y134 0).f0), .int .i64 ((rd_T34 y134 0).f1), .int .i64 x139002_29, .int .i64 ((rd_T34 y134 0).f3)] 34 (0, 0)) (by (with_reducible repeat (first | refine blk_drewN ?_ _ | refine blk_drew ?_ | refine blk_alloc ?_ _)); exact BK138.out) hb); have n3_ := Aside0.mk (below_step (by repeat (first | (with_reducible first | exact HB.out | apply below_alloc | apply pw_below_drewN | apply below_drew1 | refine below_set ?_ GE138.out) | exact HB.out)) hb); clear HO_16; clear HO_19; clear BK138; clear HB; have HO_16 := n0_; have HO_19 := n1_; have BK138 := n2_; have HB := n3_; clear n0_ n1_ n2_ n3_; (try clear hb); (try clear hb2); (try clear hk); (try clear hi)) | (go_at_call 12; (with_reducible refine (plan_Total.calls k4 _ _ l0 a3 0 a4 t204 _ ?side1 ?side2 A95.out).mono ?_); (case side1 => repeat (first | exact (Kd.C_below HR0.out HB.out) | (with_reducible refine Kd.C_alloc ?_ _) | (with_reducible refine Kd.C_drewN ?_ _) | (with_reducible refine Kd.C_drew ?_))); (case side2 => exact HC0.out); rintro e w110 ⟨rfl, hb⟩; have n0_ := Aside0.mk (Kd.R_below (by (with_reducible repeat (first | apply Kd.R_alloc | apply Kd.R_drewN | apply Kd.R_drew)); exact HO_16.out) hb); have n1_ := Aside0.mk (Kd.R_below (by (with_reducible repeat (first | apply Kd.R_alloc | apply Kd.R_drewN | apply Kd.R_drew)); exact HO_19.out) hb); have n2_ := Aside0.mk (blk_below (g := gb138) (o := .cells #[.int .i64 ((rd_T34 y134 0).f0), .int .i64 ((rd_T34 y134 0).f1), .int .i64 x139002_29, .int .i64 ((rd_T34 y134 0).f3)] 34 (0, 0)) (by (with_reducible repeat (first | refine blk_drewN ?_ _ | refine blk_drew ?_ | refine blk_alloc ?_ _)); exact BK138.out) hb); have n3_ := Aside0.mk (below_step (by repeat (first | (with_reducible first | exact HB.out | apply below_alloc | apply pw_below_drewN | apply below_drew1 | refine below_set ?_ GE138.out) | exact HB.out)) hb); clear HO_16; clear HO_19; clear BK138; clear HB; have HO_16 := n0_; have HO_19 := n1_; have BK138 := n2_; have HB := n3_; clear n0_ n1_ n2_ n3_; (try clear hb); (try clear hb2); (try clear hk); (try clear hi)) | (go_at_call 12; (with_reducible refine (plan_Total.calls k4 _ _ x19_4 a3 0 a4 t205 _ ?side1 ?side2 A96.out).mono ?_); (case side1 => repeat (first | exact (Kd.R_reads' HO_19.out).2.2 | (with_reducible refine Kd.C_alloc ?_ _) | (with_reducible refine Kd.C_drewN ?_ _) | (with_reducible refine Kd.C_drew ?_))); (case side2 => exact (Kd.R_reads' HO_19.out).2.1); rintro e w111 ⟨rfl, hb⟩; have n0_ := Aside0.mk (Kd.R_below (by (with_reducible repeat (first | apply Kd.R_alloc | apply Kd.R_drewN | apply Kd.R_drew)); exact HO_16.out) hb); have n1_ := Aside0.mk (Kd.R_below (by (with_reducible repeat (first | apply Kd.R_alloc | apply Kd.R_drewN | apply Kd.R_drew)); exact HO_19.out) hb); have n2_ := Aside0.mk (blk_below (g := gb138) (o := .cells #[.int .i64 ((rd_T34 y134 0).f0), .int .i64 ((rd_T34 y134 0).f1), .int .i64 x139002_29, .int .i64 ((rd_T34 y134 0).f3)] 34 (0, 0)) (by (with_reducible repeat (first | refine blk_drewN ?_ _ | refine blk_drew ?_ | refine blk_alloc ?_ _)); exact BK138.out) hb); have n3_ := Aside0.mk (below_step (by repeat (first | (with_reducible first | exact HB.out | apply below_alloc | apply pw_below_drewN | apply below_drew1 | refine below_set ?_ GE138.out) | exact HB.out)) hb); clear HO_16; clear HO_19; clear BK138; clear HB; have HO_16 := n0_; have HO_19 := n1_; have BK138 := n2_; have HB := n3_; clear n0_ n1_ n2_ n3_; (try clear hb); (try clear hb2); (try clear hk); (try clear hi)) | (go_at_call 11; (with_reducible refine (plan_When.calls k4 _ _ l0 a3 a4 a5 t206 _ ?side1 ?side2 A97.out).mono ?_); (case side1 => repeat (first | exact (Kd.C_below HR0.out HB.out) | (with_reducible refine Kd.C_alloc ?_ _) | (with_reducible refine Kd.C_drewN ?_ _) | (with_reducible refine Kd.C_drew ?_))); (case side2 => exact HC0.out); rintro e w112 ⟨rfl, hb⟩; have n0_ := Aside0.mk (Kd.R_below (by (with_reducible repeat (first | apply Kd.R_alloc | apply Kd.R_drewN | apply Kd.R_drew)); exact HO_16.out) hb); have n1_ := Aside0.mk (Kd.R_below (by (with_reducible repeat (first | apply Kd.R_alloc | apply Kd.R_drewN | apply Kd.R_drew)); exact HO_19.out) hb); have n2_ := Aside0.mk (blk_below (g := gb138) (o := .cells #[.int .i64 ((rd_T34 y134 0).f0), .int .i64 ((rd_T34 y134 0).f1), .int .i64 x139002_29, .int .i64 ((rd_T34 y134 0).f3)] 34 (0, 0)) (by (with_reducible repeat (first | refine blk_drewN ?_ _ | refine blk_drew ?_ | refine blk_alloc ?_ _)); exact BK138.out) hb); have n3_ := Aside0.mk (below_step (by repeat (first | (with_reducible first | exact HB.out | apply below_alloc | apply pw_below_drewN | apply below_drew1 | refine below_set ?_ GE138.out) | exact HB.out)) hb); clear HO_16; clear HO_19; clear BK138; clear HB; have HO_16 := n0_; have HO_19 := n1_; have BK138 := n2_; have HB := n3_; clear n0_ n1_ n2_ n3_; (try clear hb); (try clear hb2); (try clear hk); (try clear hi)) | (go_at_call 11; (with_reducible refine (plan_When.calls k4 _ _ x19_4 a3 a4 a5 t207 _ ?side1 ?side2 A98.out).mono ?_); (case side1 => repeat (first | exact (Kd.R_reads' HO_19.out).2.2 | (with_reducible refine Kd.C_alloc ?_ _) | (with_reducible refine Kd.C_drewN ?_ _) | (with_reducible refine Kd.C_drew ?_))); (case side2 => exact (Kd.R_reads' HO_19.out).2.1); rintro e w113 ⟨rfl, hb⟩; have n0_ := Aside0.mk (Kd.R_below (by (with_reducible repeat (first | apply Kd.R_alloc | apply Kd.R_drewN | apply Kd.R_drew)); exact HO_16.out) hb); have n1_ := Aside0.mk (Kd.R_below (by (with_reducible repeat (first | apply Kd.R_alloc | apply Kd.R_drewN | apply Kd.R_drew)); exact HO_19.out) hb); have n2_ := Aside0.mk (blk_below (g := gb138) (o := .cells #[.int .i64 ((rd_T34 y134 0).f0), .int .i64 ((rd_T34 y134 0).f1), .int .i64 x139002_29, .int .i64 ((rd_T34 y134 0).f3)] 34 (0, 0)) (by (with_reducible repeat (first | refine blk_drewN ?_ _ | refine blk_drew ?_ | refine blk_alloc ?_ _)); exact BK138.out) hb); have n3_ := Aside0.mk (below_step (by repeat (first | (with_reducible first | exact HB.out | apply below_alloc | apply pw_below_drewN | apply below_drew1 | refine below_set ?_ GE138.out) | exact HB.out)) hb); clear HO_16; clear HO_19; clear BK138; clear HB; have HO_16 := n0_; have HO_19 := n1_; have BK138 := n2_; have HB := n3_; clear n0_ n1_ n2_ n3_; (try clear hb); (try clear hb2); (try clear hk); (try clear hi)))
                                  go_ret
                                  exact ⟨by first | rfl | (simp [errW_none, errW_some] <;> rfl) | (simp [*, errW_none, errW_some] <;> rfl), by repeat (first | (with_reducible first | exact HB.out | apply below_alloc | apply pw_below_drewN | apply below_drew1 | refine below_set ?_ GE138.out) | exact HB.out)⟩
                                · rw [if_neg c102] at H
                                  have c102b0 : (t204 == t205) = false := beq_eq_false_iff_ne.mpr c102
                                  have c102b1 : (t204 != t205) = true := bne_iff_ne.mpr c102
                                  obtain rfl := Option.some.inj H
                                  obtain ⟨Ao114, co114, eo114⟩ := Kd.R_slice HO_16.out
                                  subst eo114
                                  obtain ⟨Ao115, co115, eo115⟩ := Kd.R_slice HO_19.out
                                  subst eo115
                                  go_wp2_with (first | (go_at_call 8; (with_reducible refine (plan_Right.calls k4 _ _ x19_4 t199 _ ?side1 ?side2 A90.out).mono ?_); (case side1 => repeat (first | exact (Kd.R_reads' HO_19.out).2.2 | (with_reducible refine Kd.C_alloc ?_ _) | (with_reducible refine Kd.C_drewN ?_ _) | (with_reducible refine Kd.C_drew ?_))); (case side2 => exact (Kd.R_reads' HO_19.out).2.1); rintro e w116 ⟨rfl, hb⟩; have n0_ := Aside0.mk (Kd.R_below (by (with_reducible repeat (first | apply Kd.R_alloc | apply Kd.R_drewN | apply Kd.R_drew)); exact HO_16.out) hb); have n1_ := Aside0.mk (Kd.R_below (by (with_reducible repeat (first | apply Kd.R_alloc | apply Kd.R_drewN | apply Kd.R_drew)); exact HO_19.out) hb); have n2_ := Aside0.mk (blk_below (g := gb138) (o := .cells #[.int .i64 ((rd_T34 y134 0).f0), .int .i64 ((rd_T34 y134 0).f1), .int .i64 x139002_29, .int .i64 ((rd_T34 y134 0).f3)] 34 (0, 0)) (by (with_reducible repeat (first | refine blk_drewN ?_ _ | refine blk_drew ?_ | refine blk_alloc ?_ _)); exact BK138.out) hb); have n3_ := Aside0.mk (below_step (by repeat (first | (with_reducible first | exact HB.out | apply below_alloc | apply pw_below_drewN | apply below_drew1 | refine below_set ?_ GE138.out) | exact HB.out)) hb); clear HO_16; clear HO_19; clear BK138; clear HB; have HO_16 := n0_; have HO_19 := n1_; have BK138 := n2_; have HB := n3_; clear n0_ n1_ n2_ n3_; (try clear hb); (try clear hb2); (try clear hk); (try clear hi)) | (go_at_call 13; (with_reducible refine (plan_Rate.calls k4 _ _ l0 a3 a4 t200 _ ?side1 ?side2 A91.out).mono ?_); (case side1 => repeat (first | exact (Kd.C_below HR0.out HB.out) | (with_reducible refine Kd.C_alloc ?_ _) | (with_reducible refine Kd.C_drewN ?_ _) | (with_reducible refine Kd.C_drew ?_))); (case side2 => exact HC0.out); rintro e w117 ⟨rfl, hb⟩; have n0_ := Aside0.mk (Kd.R_below (by (with_reducible repeat (first | apply Kd.R_alloc | apply Kd.R_drewN | apply Kd.R_drew)); exact HO_16.out) hb); have n1_ := Aside0.mk (Kd.R_below (by (with_reducible repeat (first | apply Kd.R_alloc | apply Kd.R_drewN | apply Kd.R_drew)); exact HO_19.out) hb); have n2_ := Aside0.mk (blk_below (g := gb138) (o := .cells #[.int .i64 ((rd_T34 y134 0).f0), .int .i64 ((rd_T34 y134 0).f1), .int .i64 x139002_29, .int .i64 ((rd_T34 y134 0).f3)] 34 (0, 0)) (by (with_reducible repeat (first | refine blk_drewN ?_ _ | refine blk_drew ?_ | refine blk_alloc ?_ _)); exact BK138.out) hb); have n3_ := Aside0.mk (below_step (by repeat (first | (with_reducible first | exact HB.out | apply below_alloc | apply pw_below_drewN | apply below_drew1 | refine below_set ?_ GE138.out) | exact HB.out)) hb); clear HO_16; clear HO_19; clear BK138; clear HB; have HO_16 := n0_; have HO_19 := n1_; have BK138 := n2_; have HB := n3_; clear n0_ n1_ n2_ n3_; (try clear hb); (try clear hb2); (try clear hk); (try clear hi)) | (go_at_call 13; (with_reducible refine (plan_Rate.calls k4 _ _ x19_4 a3 a4 t201 _ ?side1 ?side2 A92.out).mono ?_); (case side1 => repeat (first | exact (Kd.R_reads' HO_19.out).2.2 | (with_reducible refine Kd.C_alloc ?_ _) | (with_reducible refine Kd.C_drewN ?_ _) | (with_reducible refine Kd.C_drew ?_))); (case side2 => exact (Kd.R_reads' HO_19.out).2.1); rintro e w118 ⟨rfl, hb⟩; have n0_ := Aside0.mk (Kd.R_below (by (with_reducible repeat (first | apply Kd.R_alloc | apply Kd.R_drewN | apply Kd.R_drew)); exact HO_16.out) hb); have n1_ := Aside0.mk (Kd.R_below (by (with_reducible repeat (first | apply Kd.R_alloc | apply Kd.R_drewN | apply Kd.R_drew)); exact HO_19.out) hb); have n2_ := Aside0.mk (blk_below (g := gb138) (o := .cells #[.int .i64 ((rd_T34 y134 0).f0), .int .i64 ((rd_T34 y134 0).f1), .int .i64 x139002_29, .int .i64 ((rd_T34 y134 0).f3)] 34 (0, 0)) (by (with_reducible repeat (first | refine blk_drewN ?_ _ | refine blk_drew ?_ | refine blk_alloc ?_ _)); exact BK138.out) hb); have n3_ := Aside0.mk (below_step (by repeat (first | (with_reducible first | exact HB.out | apply below_alloc | apply pw_below_drewN | apply below_drew1 | refine below_set ?_ GE138.out) | exact HB.out)) hb); clear HO_16; clear HO_19; clear BK138; clear HB; have HO_16 := n0_; have HO_19 := n1_; have BK138 := n2_; have HB := n3_; clear n0_ n1_ n2_ n3_; (try clear hb); (try clear hb2); (try clear hk); (try clear hi)) | (go_at_call 17; (with_reducible refine (plan_Next.calls k4 _ _ l0 a3 a4 t202 _ ?side1 ?side2 A93.out).mono ?_); (case side1 => repeat (first | exact (Kd.C_below HR0.out HB.out) | (with_reducible refine Kd.C_alloc ?_ _) | (with_reducible refine Kd.C_drewN ?_ _) | (with_reducible refine Kd.C_drew ?_))); (case side2 => exact HC0.out); rintro e w119 ⟨rfl, hb⟩; have n0_ := Aside0.mk (Kd.R_below (by (with_reducible repeat (first | apply Kd.R_alloc | apply Kd.R_drewN | apply Kd.R_drew)); exact HO_16.out) hb); have n1_ := Aside0.mk (Kd.R_below (by (with_reducible repeat (first | apply Kd.R_alloc | apply Kd.R_drewN | apply Kd.R_drew)); exact HO_19.out) hb); have n2_ := Aside0.mk (blk_below (g := gb138) (o := .cells #[.int .i64 ((rd_T34 y134 0).f0), .int .i64 ((rd_T34 y134 0).f1), .int .i64 x139002_29, .int .i64 ((rd_T34 y134 0).f3)] 34 (0, 0)) (by (with_reducible repeat (first | refine blk_drewN ?_ _ | refine blk_drew ?_ | refine blk_alloc ?_ _)); exact BK138.out) hb); have n3_ := Aside0.mk (below_step (by repeat (first | (with_reducible first | exact HB.out | apply below_alloc | apply pw_below_drewN | apply below_drew1 | refine below_set ?_ GE138.out) | exact HB.out)) hb); clear HO_16; clear HO_19; clear BK138; clear HB; have HO_16 := n0_; have HO_19 := n1_; have BK138 := n2_; have HB := n3_; clear n0_ n1_ n2_ n3_; (try clear hb); (try clear hb2); (try clear hk); (try clear hi)) | (go_at_call 17; (with_reducible refine (plan_Next.calls k4 _ _ x19_4 a3 a4 t203 _ ?side1 ?side2 A94.out).mono ?_); (case side1 => repeat (first | exact (Kd.R_reads' HO_19.out).2.2 | (with_reducible refine Kd.C_alloc ?_ _) | (with_reducible refine Kd.C_drewN ?_ _) | (with_reducible refine Kd.C_drew ?_))); (case side2 => exact (Kd.R_reads' HO_19.out).2.1); rintro e w120 ⟨rfl, hb⟩; have n0_ := Aside0.mk (Kd.R_below (by (with_reducible repeat (first | apply Kd.R_alloc | apply Kd.R_drewN | apply Kd.R_drew)); exact HO_16.out) hb); have n1_ := Aside0.mk (Kd.R_below (by (with_reducible repeat (first | apply Kd.R_alloc | apply Kd.R_drewN | apply Kd.R_drew)); exact HO_19.out) hb); have n2_ := Aside0.mk (blk_below (g := gb138) (o := .cells #[.int .i64 ((rd_T34 y134 0).f0), .int .i64 ((rd_T34 y134 0).f1), .int .i64 x139002_29, .int .i64 ((rd_T34 y134 0).f3)] 34 (0, 0)) (by (with_reducible repeat (first | refine blk_drewN ?_ _ | refine blk_drew ?_ | refine blk_alloc ?_ _)); exact BK138.out) hb); have n3_ := Aside0.mk (below_step (by repeat (first | (with_reducible first | exact HB.out | apply below_alloc | apply pw_below_drewN | apply below_drew1 | refine below_set ?_ GE138.out) | exact HB.out)) hb); clear HO_16; clear HO_19; clear BK138; clear HB; have HO_16 := n0_; have HO_19 := n1_; have BK138 := n2_; have HB := n3_; clear n0_ n1_ n2_ n3_; (try clear hb); (try clear hb2); (try clear hk); (try clear hi)) | (go_at_call 12; (with_reducible refine (plan_Total.calls k4 _ _ l0 a3 0 a4 t204 _ ?side1 ?side2 A95.out).mono ?_); (case side1 => repeat (first | exact (Kd.C_below HR0.out HB.out) | (with_reducible refine Kd.C_alloc ?_ _) | (with_reducible refine Kd.C_drewN ?_ _) | (with_reducible refine Kd.C_drew ?_))); (case side2 => exact HC0.out); rintro e w121 ⟨rfl, hb⟩; have n0_ := Aside0.mk (Kd.R_below (by (with_reducible repeat (first | apply Kd.R_alloc | apply Kd.R_drewN | apply Kd.R_drew)); exact HO_16.out) hb); have n1_ := Aside0.mk (Kd.R_below (by (with_reducible repeat (first | apply Kd.R_alloc | apply Kd.R_drewN | apply Kd.R_drew)); exact HO_19.out) hb); have n2_ := Aside0.mk (blk_below (g := gb138) (o := .cells #[.int .i64 ((rd_T34 y134 0).f0), .int .i64 ((rd_T34 y134 0).f1), .int .i64 x139002_29, .int .i64 ((rd_T34 y134 0).f3)] 34 (0, 0)) (by (with_reducible repeat (first | refine blk_drewN ?_ _ | refine blk_drew ?_ | refine blk_alloc ?_ _)); exact BK138.out) hb); have n3_ := Aside0.mk (below_step (by repeat (first | (with_reducible first | exact HB.out | apply below_alloc | apply pw_below_drewN | apply below_drew1 | refine below_set ?_ GE138.out) | exact HB.out)) hb); clear HO_16; clear HO_19; clear BK138; clear HB; have HO_16 := n0_; have HO_19 := n1_; have BK138 := n2_; have HB := n3_; clear n0_ n1_ n2_ n3_; (try clear hb); (try clear hb2); (try clear hk); (try clear hi)) | (go_at_call 12; (with_reducible refine (plan_Total.calls k4 _ _ x19_4 a3 0 a4 t205 _ ?side1 ?side2 A96.out).mono ?_); (case side1 => repeat (first | exact (Kd.R_reads' HO_19.out).2.2 | (with_reducible refine Kd.C_alloc ?_ _) | (with_reducible refine Kd.C_drewN ?_ _) | (with_reducible refine Kd.C_drew ?_))); (case side2 => exact (Kd.R_reads' HO_19.out).2.1); rintro e w122 ⟨rfl, hb⟩; have n0_ := Aside0.mk (Kd.R_below (by (with_reducible repeat (first | apply Kd.R_alloc | apply Kd.R_drewN | apply Kd.R_drew)); exact HO_16.out) hb); have n1_ := Aside0.mk (Kd.R_below (by (with_reducible repeat (first | apply Kd.R_alloc | apply Kd.R_drewN | apply Kd.R_drew)); exact HO_19.out) hb); have n2_ := Aside0.mk (blk_below (g := gb138) (o := .cells #[.int .i64 ((rd_T34 y134 0).f0), .int .i64 ((rd_T34 y134 0).f1), .int .i64 x139002_29, .int .i64 ((rd_T34 y134 0).f3)] 34 (0, 0)) (by (with_reducible repeat (first | refine blk_drewN ?_ _ | refine blk_drew ?_ | refine blk_alloc ?_ _)); exact BK138.out) hb); have n3_ := Aside0.mk (below_step (by repeat (first | (with_reducible first | exact HB.out | apply below_alloc | apply pw_below_drewN | apply below_drew1 | refine below_set ?_ GE138.out) | exact HB.out)) hb); clear HO_16; clear HO_19; clear BK138; clear HB; have HO_16 := n0_; have HO_19 := n1_; have BK138 := n2_; have HB := n3_; clear n0_ n1_ n2_ n3_; (try clear hb); (try clear hb2); (try clear hk); (try clear hi)) | (go_at_call 11; (with_reducible refine (plan_When.calls k4 _ _ l0 a3 a4 a5 t206 _ ?side1 ?side2 A97.out).mono ?_); (case side1 => repeat (first | exact (Kd.C_below HR0.out HB.out) | (with_reducible refine Kd.C_alloc ?_ _) | (with_reducible refine Kd.C_drewN ?_ _) | (with_reducible refine Kd.C_drew ?_))); (case side2 => exact HC0.out); rintro e w123 ⟨rfl, hb⟩; have n0_ := Aside0.mk (Kd.R_below (by (with_reducible repeat (first | apply Kd.R_alloc | apply Kd.R_drewN | apply Kd.R_drew)); exact HO_16.out) hb); have n1_ := Aside0.mk (Kd.R_below (by (with_reducible repeat (first | apply Kd.R_alloc | apply Kd.R_drewN | apply Kd.R_drew)); exact HO_19.out) hb); have n2_ := Aside0.mk (blk_below (g := gb138) (o := .cells #[.int .i64 ((rd_T34 y134 0).f0), .int .i64 ((rd_T34 y134 0).f1), .int .i64 x139002_29, .int .i64 ((rd_T34 y134 0).f3)] 34 (0, 0)) (by (with_reducible repeat (first | refine blk_drewN ?_ _ | refine blk_drew ?_ | refine blk_alloc ?_ _)); exact BK138.out) hb); have n3_ := Aside0.mk (below_step (by repeat (first | (with_reducible first | exact HB.out | apply below_alloc | apply pw_below_drewN | apply below_drew1 | refine below_set ?_ GE138.out) | exact HB.out)) hb); clear HO_16; clear HO_19; clear BK138; clear HB; have HO_16 := n0_; have HO_19 := n1_; have BK138 := n2_; have HB := n3_; clear n0_ n1_ n2_ n3_; (try clear hb); (try clear hb2); (try clear hk); (try clear hi)) | (go_at_call 11; (with_reducible refine (plan_When.calls k4 _ _ x19_4 a3 a4 a5 t207 _ ?side1 ?side2 A98.out).mono ?_); (case side1 => repeat (first | exact (Kd.R_reads' HO_19.out).2.2 | (with_reducible refine Kd.C_alloc ?_ _) | (with_reducible refine Kd.C_drewN ?_ _) | (with_reducible refine Kd.C_drew ?_))); (case side2 => exact (Kd.R_reads' HO_19.out).2.1); rintro e w124 ⟨rfl, hb⟩; have n0_ := Aside0.mk (Kd.R_below (by (with_reducible repeat (first | apply Kd.R_alloc | apply Kd.R_drewN | apply Kd.R_drew)); exact HO_16.out) hb); have n1_ := Aside0.mk (Kd.R_below (by (with_reducible repeat (first | apply Kd.R_alloc | apply Kd.R_drewN | apply Kd.R_drew)); exact HO_19.out) hb); have n2_ := Aside0.mk (blk_below (g := gb138) (o := .cells #[.int .i64 ((rd_T34 y134 0).f0), .int .i64 ((rd_T34 y134 0).f1), .int .i64 x139002_29, .int .i64 ((rd_T34 y134 0).f3)] 34 (0, 0)) (by (with_reducible repeat (first | refine blk_drewN ?_ _ | refine blk_drew ?_ | refine blk_alloc ?_ _)); exact BK138.out) hb); have n3_ := Aside0.mk (below_step (by repeat (first | (with_reducible first | exact HB.out | apply below_alloc | apply pw_below_drewN | apply below_drew1 | refine below_set ?_ GE138.out) | exact HB.out)) hb); clear HO_16; clear HO_19; clear BK138; clear HB; have HO_16 := n0_; have HO_19 := n1_; have BK138 := n2_; have HB := n3_; clear n0_ n1_ n2_ n3_; (try clear hb); (try clear hb2); (try clear hk); (try clear hi)))
                                  go_ret
                                  exact ⟨by first | rfl | (simp [errW_none, errW_some] <;> rfl) | (simp [*, errW_none, errW_some] <;> rfl), by repeat (first | (with_reducible first | exact HB.out | apply below_alloc | apply pw_below_drewN | apply below_drew1 | refine below_set ?_ GE138.out) | exact HB.out)⟩
                              · rw [if_neg c101] at H
                                have c101b0 : (t202 == t203) = false := beq_eq_false_iff_ne.mpr c101
                                have c101b1 : (t202 != t203) = true := bne_iff_ne.mpr c101
                                obtain rfl := Option.some.inj H
                                obtain ⟨Ao125, co125, eo125⟩ := Kd.R_slice HO_16.out
                                subst eo125
                                obtain ⟨Ao126, co126, eo126⟩ := Kd.R_slice HO_19.out
                                subst eo126
                                go_wp2_with (first | (go_at_call 8; (with_reducible refine (plan_Right.calls k4 _ _ x19_4 t199 _ ?side1 ?side2 A90.out).mono ?_); (case side1 => repeat (first | exact (Kd.R_reads' HO_19.out).2.2 | (with_reducible refine Kd.C_alloc ?_ _) | (with_reducible refine Kd.C_drewN ?_ _) | (with_reducible refine Kd.C_drew ?_))); (case side2 => exact (Kd.R_reads' HO_19.out).2.1); rintro e w127 ⟨rfl, hb⟩; have n0_ := Aside0.mk (Kd.R_below (by (with_reducible repeat (first | apply Kd.R_alloc | apply Kd.R_drewN | apply Kd.R_drew)); exact HO_16.out) hb); have n1_ := Aside0.mk (Kd.R_below (by (with_reducible repeat (first | apply Kd.R_alloc | apply Kd.R_drewN | apply Kd.R_drew)); exact HO_19.out) hb); have n2_ := Aside0.mk (blk_below (g := gb138) (o := .cells #[.int .i64 ((rd_T34 y134 0).f0), .int .i64 ((rd_T34 y134 0).f1), .int .i64 x139002_29, .int .i64 ((rd_T34 y134 0).f3)] 34 (0, 0)) (by (with_reducible repeat (first | refine blk_drewN ?_ _ | refine blk_drew ?_ | refine blk_alloc ?_ _)); exact BK138.out) hb); have n3_ := Aside0.mk (below_step (by repeat (first | (with_reducible first | exact HB.out | apply below_alloc | apply pw_below_drewN | apply below_drew1 | refine below_set ?_ GE138.out) | exact HB.out)) hb); clear HO_16; clear HO_19; clear BK138; clear HB; have HO_16 := n0_; have HO_19 := n1_; have BK138 := n2_; have HB := n3_; clear n0_ n1_ n2_ n3_; (try clear hb); (try clear hb2); (try clear hk); (try clear hi)) | (go_at_call 13; (with_reducible refine (plan_Rate.calls k4 _ _ l0 a3 a4 t200 _ ?side1 ?side2 A91.out).mono ?_); (case side1 => repeat (first | exact (Kd.C_below HR0.out HB.out) | (with_reducible refine Kd.C_alloc ?_ _) | (with_reducible refine Kd.C_drewN ?_ _) | (with_reducible refine Kd.C_drew ?_))); (case side2 => exact HC0.out); rintro e w128 ⟨rfl, hb⟩; have n0_ := Aside0.mk (Kd.R_below (by (with_reducible repeat (first | apply Kd.R_alloc | apply Kd.R_drewN | apply Kd.R_drew)); exact HO_16.out) hb); have n1_ := Aside0.mk (Kd.R_below (by (with_reducible repeat (first | apply Kd.R_alloc | apply Kd.R_drewN | apply Kd.R_drew)); exact HO_19.out) hb); have n2_ := Aside0.mk (blk_below (g := gb138) (o := .cells #[.int .i64 ((rd_T34 y134 0).f0), .int .i64 ((rd_T34 y134 0).f1), .int .i64 x139002_29, .int .i64 ((rd_T34 y134 0).f3)] 34 (0, 0)) (by (with_reducible repeat (first | refine blk_drewN ?_ _ | refine blk_drew ?_ | refine blk_alloc ?_ _)); exact BK138.out) hb); have n3_ := Aside0.mk (below_step (by repeat (first | (with_reducible first | exact HB.out | apply below_alloc | apply pw_below_drewN | apply below_drew1 | refine below_set ?_ GE138.out) | exact HB.out)) hb); clear HO_16; clear HO_19; clear BK138; clear HB; have HO_16 := n0_; have HO_19 := n1_; have BK138 := n2_; have HB := n3_; clear n0_ n1_ n2_ n3_; (try clear hb); (try clear hb2); (try clear hk); (try clear hi)) | (go_at_call 13; (with_reducible refine (plan_Rate.calls k4 _ _ x19_4 a3 a4 t201 _ ?side1 ?side2 A92.out).mono ?_); (case side1 => repeat (first | exact (Kd.R_reads' HO_19.out).2.2 | (with_reducible refine Kd.C_alloc ?_ _) | (with_reducible refine Kd.C_drewN ?_ _) | (with_reducible refine Kd.C_drew ?_))); (case side2 => exact (Kd.R_reads' HO_19.out).2.1); rintro e w129 ⟨rfl, hb⟩; have n0_ := Aside0.mk (Kd.R_below (by (with_reducible repeat (first | apply Kd.R_alloc | apply Kd.R_drewN | apply Kd.R_drew)); exact HO_16.out) hb); have n1_ := Aside0.mk (Kd.R_below (by (with_reducible repeat (first | apply Kd.R_alloc | apply Kd.R_drewN | apply Kd.R_drew)); exact HO_19.out) hb); have n2_ := Aside0.mk (blk_below (g := gb138) (o := .cells #[.int .i64 ((rd_T34 y134 0).f0), .int .i64 ((rd_T34 y134 0).f1), .int .i64 x139002_29, .int .i64 ((rd_T34 y134 0).f3)] 34 (0, 0)) (by (with_reducible repeat (first | refine blk_drewN ?_ _ | refine blk_drew ?_ | refine blk_alloc ?_ _)); exact BK138.out) hb); have n3_ := Aside0.mk (below_step (by repeat (first | (with_reducible first | exact HB.out | apply below_alloc | apply pw_below_drewN | apply below_drew1 | refine below_set ?_ GE138.out) | exact HB.out)) hb); clear HO_16; clear HO_19; clear BK138; clear HB; have HO_16 := n0_; have HO_19 := n1_; have BK138 := n2_; have HB := n3_; clear n0_ n1_ n2_ n3_; (try clear hb); (try clear hb2); (try clear hk); (try clear hi)) | (go_at_call 17; (with_reducible refine (plan_Next.calls k4 _ _ l0 a3 a4 t202 _ ?side1 ?side2 A93.out).mono ?_); (case side1 => repeat (first | exact (Kd.C_below HR0.out HB.out) | (with_reducible refine Kd.C_alloc ?_ _) | (with_reducible refine Kd.C_drewN ?_ _) | (with_reducible refine Kd.C_drew ?_))); (case side2 => exact HC0.out); rintro e w130 ⟨rfl, hb⟩; have n0_ := Aside0.mk (Kd.R_below (by (with_reducible repeat (first | apply Kd.R_alloc | apply Kd.R_drewN | apply Kd.R_drew)); exact HO_16.out) hb); have n1_ := Aside0.mk (Kd.R_below (by (with_reducible repeat (first | apply Kd.R_alloc | apply Kd.R_drewN | apply Kd.R_drew)); exact HO_19.out) hb); have n2_ := Aside0.mk (blk_below (g := gb138) (o := .cells #[.int .i64 ((rd_T34 y134 0).f0), .int .i64 ((rd_T34 y134 0).f1), .int .i64 x139002_29, .int .i64 ((rd_T34 y134 0).f3)] 34 (0, 0)) (by (with_reducible repeat (first | refine blk_drewN ?_ _ | refine blk_drew ?_ | refine blk_alloc ?_ _)); exact BK138.out) hb); have n3_ := Aside0.mk (below_step (by repeat (first | (with_reducible first | exact HB.out | apply below_alloc | apply pw_below_drewN | apply below_drew1 | refine below_set ?_ GE138.out) | exact HB.out)) hb); clear HO_16; clear HO_19; clear BK138; clear HB; have HO_16 := n0_; have HO_19 := n1_; have BK138 := n2_; have HB := n3_; clear n0_ n1_ n2_ n3_; (try clear hb); (try clear hb2); (try clear hk); (try clear hi)) | (go_at_call 17; (with_reducible refine (plan_Next.calls k4 _ _ x19_4 a3 a4 t203 _ ?side1 ?side2 A94.out).mono ?_); (case side1 => repeat (first | exact (Kd.R_reads' HO_19.out).2.2 | (with_reducible refine Kd.C_alloc ?_ _) | (with_reducible refine Kd.C_drewN ?_ _) | (with_reducible refine Kd.C_drew ?_))); (case side2 => exact (Kd.R_reads' HO_19.out).2.1); rintro e w131 ⟨rfl, hb⟩; have n0_ := Aside0.mk (Kd.R_below (by (with_reducible repeat (first | apply Kd.R_alloc | apply Kd.R_drewN | apply Kd.R_drew)); exact HO_16.out) hb); have n1_ := Aside0.mk (Kd.R_below (by (with_reducible repeat (first | apply Kd.R_alloc | apply Kd.R_drewN | apply Kd.R_drew)); exact HO_19.out) hb); have n2_ := Aside0.mk (blk_below (g := gb138) (o := .cells #[.int .i64 ((rd_T34 y134 0).f0), .int .i64 ((rd_T34 y134 0).f1), .int .i64 x139002_29, .int .i64 ((rd_T34 y134 0).f3)] 34 (0, 0)) (by (with_reducible repeat (first | refine blk_drewN ?_ _ | refine blk_drew ?_ | refine blk_alloc ?_ _)); exact BK138.out) hb); have n3_ := Aside0.mk (below_step (by repeat (first | (with_reducible first | exact HB.out | apply below_alloc | apply pw_below_drewN | apply below_drew1 | refine below_set ?_ GE138.out) | exact HB.out)) hb); clear HO_16; clear HO_19; clear BK138; clear HB; have HO_16 := n0_; have HO_19 := n1_; have BK138 := n2_; have HB := n3_; clear n0_ n1_ n2_ n3_; (try clear hb); (try clear hb2); (try clear hk); (try clear hi)) | (go_at_call 12; (with_reducible refine (plan_Total.calls k4 _ _ l0 a3 0 a4 t204 _ ?side1 ?side2 A95.out).mono ?_); (case side1 => repeat (first | exact (Kd.C_below HR0.out HB.out) | (with_reducible refine Kd.C_alloc ?_ _) | (with_reducible refine Kd.C_drewN ?_ _) | (with_reducible refine Kd.C_drew ?_))); (case side2 => exact HC0.out); rintro e w132 ⟨rfl, hb⟩; have n0_ := Aside0.mk (Kd.R_below (by (with_reducible repeat (first | apply Kd.R_alloc | apply Kd.R_drewN | apply Kd.R_drew)); exact HO_16.out) hb); have n1_ := Aside0.mk (Kd.R_below (by (with_reducible repeat (first | apply Kd.R_alloc | apply Kd.R_drewN | apply Kd.R_drew)); exact HO_19.out) hb); have n2_ := Aside0.mk (blk_below (g := gb138) (o := .cells #[.int .i64 ((rd_T34 y134 0).f0), .int .i64 ((rd_T34 y134 0).f1), .int .i64 x139002_29, .int .i64 ((rd_T34 y134 0).f3)] 34 (0, 0)) (by (with_reducible repeat (first | refine blk_drewN ?_ _ | refine blk_drew ?_ | refine blk_alloc ?_ _)); exact BK138.out) hb); have n3_ := Aside0.mk (below_step (by repeat (first | (with_reducible first | exact HB.out | apply below_alloc | apply pw_below_drewN | apply below_drew1 | refine below_set ?_ GE138.out) | exact HB.out)) hb); clear HO_16; clear HO_19; clear BK138; clear HB; have HO_16 := n0_; have HO_19 := n1_; have BK138 := n2_; have HB := n3_; clear n0_ n1_ n2_ n3_; (try clear hb); (try clear hb2); (try clear hk); (try clear hi)) | (go_at_call 12; (with_reducible refine (plan_Total.calls k4 _ _ x19_4 a3 0 a4 t205 _ ?side1 ?side2 A96.out).mono ?_); (case side1 => repeat (first | exact (Kd.R_reads' HO_19.out).2.2 | (with_reducible refine Kd.C_alloc ?_ _) | (with_reducible refine Kd.C_drewN ?_ _) | (with_reducible refine Kd.C_drew ?_))); (case side2 => exact (Kd.R_reads' HO_19.out).2.1); rintro e w133 ⟨rfl, hb⟩; have n0_ := Aside0.mk (Kd.R_below (by (with_reducible repeat (first | apply Kd.R_alloc | apply Kd.R_drewN | apply Kd.R_drew)); exact HO_16.out) hb); have n1_ := Aside0.mk (Kd.R_below (by (with_reducible repeat (first | apply Kd.R_alloc | apply Kd.R_drewN | apply Kd.R_drew)); exact HO_19.out) hb); have n2_ := Aside0.mk (blk_below (g := gb138) (o := .cells #[.int .i64 ((rd_T34 y134 0).f0), .int .i64 ((rd_T34 y134 0).f1), .int .i64 x139002_29, .int .i64 ((rd_T34 y134 0).f3)] 34 (0, 0)) (by (with_reducible repeat (first | refine blk_drewN ?_ _ | refine blk_drew ?_ | refine blk_alloc ?_ _)); exact BK138.out) hb); have n3_ := Aside0.mk (below_step (by repeat (first | (with_reducible first | exact HB.out | apply below_alloc | apply pw_below_drewN | apply below_drew1 | refine below_set ?_ GE138.out) | exact HB.out)) hb); clear HO_16; clear HO_19; clear BK138; clear HB; have HO_16 := n0_; have HO_19 := n1_; have BK138 := n2_; have HB := n3_; clear n0_ n1_ n2_ n3_; (try clear hb); (try clear hb2); (try clear hk); (try clear hi)) | (go_at_call 11; (with_reducible refine (plan_When.calls k4 _ _ l0 a3 a4 a5 t206 _ ?side1 ?side2 A97.out).mono ?_); (case side1 => repeat (first | exact (Kd.C_below HR0.out HB.out) | (with_reducible refine Kd.C_alloc ?_ _) | (with_reducible refine Kd.C_drewN ?_ _) | (with_reducible refine Kd.C_drew ?_))); (case side2 => exact HC0.out); rintro e w134 ⟨rfl, hb⟩; have n0_ := Aside0.mk (Kd.R_below (by (with_reducible repeat (first | apply Kd.R_alloc | apply Kd.R_drewN | apply Kd.R_drew)); exact HO_16.out) hb); have n1_ := Aside0.mk (Kd.R_below (by (with_reducible repeat (first | apply Kd.R_alloc | apply Kd.R_drewN | apply Kd.R_drew)); exact HO_19.out) hb); have n2_ := Aside0.mk (blk_below (g := gb138) (o := .cells #[.int .i64 ((rd_T34 y134 0).f0), .int .i64 ((rd_T34 y134 0).f1), .int .i64 x139002_29, .int .i64 ((rd_T34 y134 0).f3)] 34 (0, 0)) (by (with_reducible repeat (first | refine blk_drewN ?_ _ | refine blk_drew ?_ | refine blk_alloc ?_ _)); exact BK138.out) hb); have n3_ := Aside0.mk (below_step (by repeat (first | (with_reducible first | exact HB.out | apply below_alloc | apply pw_below_drewN | apply below_drew1 | refine below_set ?_ GE138.out) | exact HB.out)) hb); clear HO_16; clear HO_19; clear BK138; clear HB; have HO_16 := n0_; have HO_19 := n1_; have BK138 := n2_; have HB := n3_; clear n0_ n1_ n2_ n3_; (try clear hb); (try clear hb2); (try clear hk); (try clear hi)) | (go_at_call 11; (with_reducible refine (plan_When.calls k4 _ _ x19_4 a3 a4 a5 t207 _ ?side1 ?side2 A98.out).mono ?_); (case side1 => repeat (first | exact (Kd.R_reads' HO_19.out).2.2 | (with_reducible refine Kd.C_alloc ?_ _) | (with_reducible refine Kd.C_drewN ?_ _) | (with_reducible refine Kd.C_drew ?_))); (case side2 => exact (Kd.R_reads' HO_19.out).2.1); rintro e w135 ⟨rfl, hb⟩; have n0_ := Aside0.mk (Kd.R_below (by (with_reducible repeat (first | apply Kd.R_alloc | apply Kd.R_drewN | apply Kd.R_drew)); exact HO_16.out) hb); have n1_ := Aside0.mk (Kd.R_below (by (with_reducible repeat (first | apply Kd.R_alloc | apply Kd.R_drewN | apply Kd.R_drew)); exact HO_19.out) hb); have n2_ := Aside0.mk (blk_below (g := gb138) (o := .cells #[.int .i64 ((rd_T34 y134 0).f0), .int .i64 ((rd_T34 y134 0).f1), .int .i64 x139002_29, .int .i64 ((rd_T34 y134 0).f3)] 34 (0, 0)) (by (with_reducible repeat (first | refine blk_drewN ?_ _ | refine blk_drew ?_ | refine blk_alloc ?_ _)); exact BK138.out) hb); have n3_ := Aside0.mk (below_step (by repeat (first | (with_reducible first | exact HB.out | apply below_alloc | apply pw_below_drewN | apply below_drew1 | refine below_set ?_ GE138.out) | exact HB.out)) hb); clear HO_16; clear HO_19; clear BK138; clear HB; have HO_16 := n0_; have HO_19 := n1_; have BK138 := n2_; have HB := n3_; clear n0_ n1_ n2_ n3_; (try clear hb); (try clear hb2); (try clear hk); (try clear hi)))
                                go_ret
                                exact ⟨by first | rfl | (simp [errW_none, errW_some] <;> rfl) | (simp [*, errW_none, errW_some] <;> rfl), by repeat (first | (with_reducible first | exact HB.out | apply below_alloc | apply pw_below_drewN | apply below_drew1 | refine below_set ?_ GE138.out) | exact HB.out)⟩
                            · rw [if_neg c100] at H
                              have c100b0 : (t200 == t201) = false := beq_eq_false_iff_ne.mpr c100
                              have c100b1 : (t200 != t201) = true := bne_iff_ne.mpr c100
                              obtain rfl := Option.some.inj H
                              obtain ⟨Ao136, co136, eo136⟩ := Kd.R_slice HO_16.out
                              subst eo136
                              obtain ⟨Ao137, co137, eo137⟩ := Kd.R_slice HO_19.out
                              subst eo137
                              go_wp2_with (first | (go_at_call 8; (with_reducible refine (plan_Right.calls k4 _ _ x19_4 t199 _ ?side1 ?side2 A90.out).mono ?_); (case side1 => repeat (first | exact (Kd.R_reads' HO_19.out).2.2 | (with_reducible refine Kd.C_alloc ?_ _) | (with_reducible refine Kd.C_drewN ?_ _) | (with_reducible refine Kd.C_drew ?_))); (case side2 => exact (Kd.R_reads' HO_19.out).2.1); rintro e w138 ⟨rfl, hb⟩; have n0_ := Aside0.mk (Kd.R_below (by (with_reducible repeat (first | apply Kd.R_alloc | apply Kd.R_drewN | apply Kd.R_drew)); exact HO_16.out) hb); have n1_ := Aside0.mk (Kd.R_below (by (with_reducible repeat (first | apply Kd.R_alloc | apply Kd.R_drewN | apply Kd.R_drew)); exact HO_19.out) hb); have n2_ := Aside0.mk (blk_below (g := gb138) (o := .cells #[.int .i64 ((rd_T34 y134 0).f0), .int .i64 ((rd_T34 y134 0).f1), .int .i64 x139002_29, .int .i64 ((rd_T34 y134 0).f3)] 34 (0, 0)) (by (with_reducible repeat (first | refine blk_drewN ?_ _ | refine blk_drew ?_ | refine blk_alloc ?_ _)); exact BK138.out) hb); have n3_ := Aside0.mk (below_step (by repeat (first | (with_reducible first | exact HB.out | apply below_alloc | apply pw_below_drewN | apply below_drew1 | refine below_set ?_ GE138.out) | exact HB.out)) hb); clear HO_16; clear HO_19; clear BK138; clear HB; have HO_16 := n0_; have HO_19 := n1_; have BK138 := n2_; have HB := n3_; clear n0_ n1_ n2_ n3_; (try clear hb); (try clear hb2); (try clear hk); (try clear hi)) | (go_at_call 13; (with_reducible refine (plan_Rate.calls k4 _ _ l0 a3 a4 t200 _ ?side1 ?side2 A91.out).mono ?_); (case side1 => repeat (first | exact (Kd.C_below HR0.out HB.out) | (with_reducible refine Kd.C_alloc ?_ _) | (with_reducible refine Kd.C_drewN ?_ _) | (with_reducible refine Kd.C_drew ?_))); (case side2 => exact HC0.out); rintro e w139 ⟨rfl, hb⟩; have n0_ := Aside0.mk (Kd.R_below (by (with_reducible repeat (first | apply Kd.R_alloc | apply Kd.R_drewN | apply Kd.R_drew)); exact HO_16.out) hb); have n1_ := Aside0.mk (Kd.R_below (by (with_reducible repeat (first | apply Kd.R_alloc | apply Kd.R_drewN | apply Kd.R_drew)); exact HO_19.out) hb); have n2_ := Aside0.mk (blk_below (g := gb138) (o := .cells #[.int .i64 ((rd_T34 y134 0).f0), .int .i64 ((rd_T34 y134 0).f1), .int .i64 x139002_29, .int .i64 ((rd_T34 y134 0).f3)] 34 (0, 0)) (by (with_reducible repeat (first | refine blk_drewN ?_ _ | refine blk_drew ?_ | refine blk_alloc ?_ _)); exact BK138.out) hb); have n3_ := Aside0.mk (below_step (by repeat (first | (with_reducible first | exact HB.out | apply below_alloc | apply pw_below_drewN | apply below_drew1 | refine below_set ?_ GE138.out) | exact HB.out)) hb); clear HO_16; clear HO_19; clear BK138; clear HB; have HO_16 := n0_; have HO_19 := n1_; have BK138 := n2_; have HB := n3_; clear n0_ n1_ n2_ n3_; (try clear hb); (try clear hb2); (try clear hk); (try clear hi)) | (go_at_call 13; (with_reducible refine (plan_Rate.calls k4 _ _ x19_4 a3 a4 t201 _ ?side1 ?side2 A92.out).mono ?_); (case side1 => repeat (first | exact (Kd.R_reads' HO_19.out).2.2 | (with_reducible refine Kd.C_alloc ?_ _) | (with_reducible refine Kd.C_drewN ?_ _) | (with_reducible refine Kd.C_drew ?_))); (case side2 => exact (Kd.R_reads' HO_19.out).2.1); rintro e w140 ⟨rfl, hb⟩; have n0_ := Aside0.mk (Kd.R_below (by (with_reducible repeat (first | apply Kd.R_alloc | apply Kd.R_drewN | apply Kd.R_drew)); exact HO_16.out) hb); have n1_ := Aside0.mk (Kd.R_below (by (with_reducible repeat (first | apply Kd.R_alloc | apply Kd.R_drewN | apply Kd.R_drew)); exact HO_19.out) hb); have n2_ := Aside0.mk (blk_below (g := gb138) (o := .cells #[.int .i64 ((rd_T34 y134 0).f0), .int .i64 ((rd_T34 y134 0).f1), .int .i64 x139002_29, .int .i64 ((rd_T34 y134 0).f3)] 34 (0, 0)) (by (with_reducible repeat (first | refine blk_drewN ?_ _ | refine blk_drew ?_ | refine blk_alloc ?_ _)); exact BK138.out) hb); have n3_ := Aside0.mk (below_step (by repeat (first | (with_reducible first | exact HB.out | apply below_alloc | apply pw_below_drewN | apply below_drew1 | refine below_set ?_ GE138.out) | exact HB.out)) hb); clear HO_16; clear HO_19; clear BK138; clear HB; have HO_16 := n0_; have HO_19 := n1_; have BK138 := n2_; have HB := n3_; clear n0_ n1_ n2_ n3_; (try clear hb); (try clear hb2); (try clear hk); (try clear hi)) | (go_at_call 17; (with_reducible refine (plan_Next.calls k4 _ _ l0 a3 a4 t202 _ ?side1 ?side2 A93.out).mono ?_); (case side1 => repeat (first | exact (Kd.C_below HR0.out HB.out) | (with_reducible refine Kd.C_alloc ?_ _) | (with_reducible refine Kd.C_drewN ?_ _) | (with_reducible refine Kd.C_drew ?_))); (case side2 => exact HC0.out); rintro e w141 ⟨rfl, hb⟩; have n0_ := Aside0.mk (Kd.R_below (by (with_reducible repeat (first | apply Kd.R_alloc | apply Kd.R_drewN | apply Kd.R_drew)); exact HO_16.out) hb); have n1_ := Aside0.mk (Kd.R_below (by (with_reducible repeat (first | apply Kd.R_alloc | apply Kd.R_drewN | apply Kd.R_drew)); exact HO_19.out) hb); have n2_ := Aside0.mk (blk_below (g := gb138) (o := .cells #[.int .i64 ((rd_T34 y134 0).f0), .int .i64 ((rd_T34 y134 0).f1), .int .i64 x139002_29, .int .i64 ((rd_T34 y134 0).f3)] 34 (0, 0)) (by (with_reducible repeat (first | refine blk_drewN ?_ _ | refine blk_drew ?_ | refine blk_alloc ?_ _)); exact BK138.out) hb); have n3_ := Aside0.mk (below_step (by repeat (first | (with_reducible first | exact HB.out | apply below_alloc | apply pw_below_drewN | apply below_drew1 | refine below_set ?_ GE138.out) | exact HB.out)) hb); clear HO_16; clear HO_19; clear BK138; clear HB; have HO_16 := n0_; have HO_19 := n1_; have BK138 := n2_; have HB := n3_; clear n0_ n1_ n2_ n3_; (try clear hb); (try clear hb2); (try clear hk); (try clear hi)) | (go_at_call 17; (with_reducible refine (plan_Next.calls k4 _ _ x19_4 a3 a4 t203 _ ?side1 ?side2 A94.out).mono ?_); (case side1 => repeat (first | exact (Kd.R_reads' HO_19.out).2.2 | (with_reducible refine Kd.C_alloc ?_ _) | (with_reducible refine Kd.C_drewN ?_ _) | (with_reducible refine Kd.C_drew ?_))); (case side2 => exact (Kd.R_reads' HO_19.out).2.1); rintro e w142 ⟨rfl, hb⟩; have n0_ := Aside0.mk (Kd.R_below (by (with_reducible repeat (first | apply Kd.R_alloc | apply Kd.R_drewN | apply Kd.R_drew)); exact HO_16.out) hb); have n1_ := Aside0.mk (Kd.R_below (by (with_reducible repeat (first | apply Kd.R_alloc | apply Kd.R_drewN | apply Kd.R_drew)); exact HO_19.out) hb); have n2_ := Aside0.mk (blk_below (g := gb138) (o := .cells #[.int .i64 ((rd_T34 y134 0).f0), .int .i64 ((rd_T34 y134 0).f1), .int .i64 x139002_29, .int .i64 ((rd_T34 y134 0).f3)] 34 (0, 0)) (by (with_reducible repeat (first | refine blk_drewN ?_ _ | refine blk_drew ?_ | refine blk_alloc ?_ _)); exact BK138.out) hb); have n3_ := Aside0.mk (below_step (by repeat (first | (with_reducible first | exact HB.out | apply below_alloc | apply pw_below_drewN | apply below_drew1 | refine below_set ?_ GE138.out) | exact HB.out)) hb); clear HO_16; clear HO_19; clear BK138; clear HB; have HO_16 := n0_; have HO_19 := n1_; have BK138 := n2_; have HB := n3_; clear n0_ n1_ n2_ n3_; (try clear hb); (try clear hb2); (try clear hk); (try clear hi)) | (go_at_call 12; (with_reducible refine (plan_Total.calls k4 _ _ l0 a3 0 a4 t204 _ ?side1 ?side2 A95.out).mono ?_); (case side1 => repeat (first | exact (Kd.C_below HR0.out HB.out) | (with_reducible refine Kd.C_alloc ?_ _) | (with_reducible refine Kd.C_drewN ?_ _) | (with_reducible refine Kd.C_drew ?_))); (case side2 => exact HC0.out); rintro e w143 ⟨rfl, hb⟩; have n0_ := Aside0.mk (Kd.R_below (by (with_reducible repeat (first | apply Kd.R_alloc | apply Kd.R_drewN | apply Kd.R_drew)); exact HO_16.out) hb); have n1_ := Aside0.mk (Kd.R_below (by (with_reducible repeat (first | apply Kd.R_alloc | apply Kd.R_drewN | apply Kd.R_drew)); exact HO_19.out) hb); have n2_ := Aside0.mk (blk_below (g := gb138) (o := .cells #[.int .i64 ((rd_T34 y134 0).f0), .int .i64 ((rd_T34 y134 0).f1), .int .i64 x139002_29, .int .i64 ((rd_T34 y134 0).f3)] 34 (0, 0)) (by (with_reducible repeat (first | refine blk_drewN ?_ _ | refine blk_drew ?_ | refine blk_alloc ?_ _)); exact BK138.out) hb); have n3_ := Aside0.mk (below_step (by repeat (first | (with_reducible first | exact HB.out | apply below_alloc | apply pw_below_drewN | apply below_drew1 | refine below_set ?_ GE138.out) | exact HB.out)) hb); clear HO_16; clear HO_19; clear BK138; clear HB; have HO_16 := n0_; have HO_19 := n1_; have BK138 := n2_; have HB := n3_; clear n0_ n1_ n2_ n3_; (try clear hb); (try clear hb2); (try clear hk); (try clear hi)) | (go_at_call 12; (with_reducible refine (plan_Total.calls k4 _ _ x19_4 a3 0 a4 t205 _ ?side1 ?side2 A96.out).mono ?_); (case side1 => repeat (first | exact (Kd.R_reads' HO_19.out).2.2 | (with_reducible refine Kd.C_alloc ?_ _) | (with_reducible refine Kd.C_drewN ?_ _) | (with_reducible refine Kd.C_drew ?_))); (case side2 => exact (Kd.R_reads' HO_19.out).2.1); rintro e w144 ⟨rfl, hb⟩; have n0_ := Aside0.mk (Kd.R_below (by (with_reducible repeat (first | apply Kd.R_alloc | apply Kd.R_drewN | apply Kd.R_drew)); exact HO_16.out) hb); have n1_ := Aside0.mk (Kd.R_below (by (with_reducible repeat (first | apply Kd.R_alloc | apply Kd.R_drewN | apply Kd.R_drew)); exact HO_19.out) hb); have n2_ := Aside0.mk (blk_below (g := gb138) (o := .cells #[.int .i64 ((rd_T34 y134 0).f0), .int .i64 ((rd_T34 y134 0).f1), .int .i64 x139002_29, .int .i64 ((rd_T34 y134 0).f3)] 34 (0, 0)) (by (with_reducible repeat (first | refine blk_drewN ?_ _ | refine blk_drew ?_ | refine blk_alloc ?_ _)); exact BK138.out) hb); have n3_ := Aside0.mk (below_step (by repeat (first | (with_reducible first | exact HB.out | apply below_alloc | apply pw_below_drewN | apply below_drew1 | refine below_set ?_ GE138.out) | exact HB.out)) hb); clear HO_16; clear HO_19; clear BK138; clear HB; have HO_16 := n0_; have HO_19 := n1_; have BK138 := n2_; have HB := n3_; clear n0_ n1_ n2_ n3_; (try clear hb); (try clear hb2); (try clear hk); (try clear hi)) | (go_at_call 11; (with_reducible refine (plan_When.calls k4 _ _ l0 a3 a4 a5 t206 _ ?side1 ?side2 A97.out).mono ?_); (case side1 => repeat (first | exact (Kd.C_below HR0.out HB.out) | (with_reducible refine Kd.C_alloc ?_ _) | (with_reducible refine Kd.C_drewN ?_ _) | (with_reducible refine Kd.C_drew ?_))); (case side2 => exact HC0.out); rintro e w145 ⟨rfl, hb⟩; have n0_ := Aside0.mk (Kd.R_below (by (with_reducible repeat (first | apply Kd.R_alloc | apply Kd.R_drewN | apply Kd.R_drew)); exact HO_16.out) hb); have n1_ := Aside0.mk (Kd.R_below (by (with_reducible repeat (first | apply Kd.R_alloc | apply Kd.R_drewN | apply Kd.R_drew)); exact HO_19.out) hb); have n2_ := Aside0.mk (blk_below (g := gb138) (o := .cells #[.int .i64 ((rd_T34 y134 0).f0), .int .i64 ((rd_T34 y134 0).f1), .int .i64 x139002_29, .int .i64 ((rd_T34 y134 0).f3)] 34 (0, 0)) (by (with_reducible repeat (first | refine blk_drewN ?_ _ | refine blk_drew ?_ | refine blk_alloc ?_ _)); exact BK138.out) hb); have n3_ := Aside0.mk (below_step (by repeat (first | (with_reducible first | exact HB.out | apply below_alloc | apply pw_below_drewN | apply below_drew1 | refine below_set ?_ GE138.out) | exact HB.out)) hb); clear HO_16; clear HO_19; clear BK138; clear HB; have HO_16 := n0_; have HO_19 := n1_; have BK138 := n2_; have HB := n3_; clear n0_ n1_ n2_ n3_; (try clear hb); (try clear hb2); (try clear hk); (try clear hi)) | (go_at_call 11; (with_reducible refine (plan_When.calls k4 _ _ x19_4 a3 a4 a5 t207 _ ?side1 ?side2 A98.out).mono ?_); (case side1 => repeat (first | exact (Kd.R_reads' HO_19.out).2.2 | (with_reducible refine Kd.C_alloc ?_ _) | (with_reducible refine Kd.C_drewN ?_ _) | (with_reducible refine Kd.C_drew ?_))); (case side2 => exact (Kd.R_reads' HO_19.out).2.1); rintro e w146 ⟨rfl, hb⟩; have n0_ := Aside0.mk (Kd.R_below (by (with_reducible repeat (first | apply Kd.R_alloc | apply Kd.R_drewN | apply Kd.R_drew)); exact HO_16.out) hb); have n1_ := Aside0.mk (Kd.R_below (by (with_reducible repeat (first | apply Kd.R_alloc | apply Kd.R_drewN | apply Kd.R_drew)); exact HO_19.out) hb); have n2_ := Aside0.mk (blk_below (g := gb138) (o := .cells #[.int .i64 ((rd_T34 y134 0).f0), .int .i64 ((rd_T34 y134 0).f1), .int .i64 x139002_29, .int .i64 ((rd_T34 y134 0).f3)] 34 (0, 0)) (by (with_reducible repeat (first | refine blk_drewN ?_ _ | refine blk_drew ?_ | refine blk_alloc ?_ _)); exact BK138.out) hb); have n3_ := Aside0.mk (below_step (by repeat (first | (with_reducible first | exact HB.out | apply below_alloc | apply pw_below_drewN | apply below_drew1 | refine below_set ?_ GE138.out) | exact HB.out)) hb); clear HO_16; clear HO_19; clear BK138; clear HB; have HO_16 := n0_; have HO_19 := n1_; have BK138 := n2_; have HB := n3_; clear n0_ n1_ n2_ n3_; (try clear hb); (try clear hb2); (try clear hk); (try clear hi)))
                              go_ret
                              exact ⟨by first | rfl | (simp [errW_none, errW_some] <;> rfl) | (simp [*, errW_none, errW_some] <;> rfl), by repeat (first | (with_reducible first | exact HB.out | apply below_alloc | apply pw_below_drewN | apply below_drew1 | refine below_set ?_ GE138.out) | exact HB.out)⟩
                          · rw [if_neg c99] at H
                            have c99b0 : (t199 == 0) = false := beq_eq_false_iff_ne.mpr c99
                            have c99b1 : (t199 != 0) = true := bne_iff_ne.mpr c99
                            obtain rfl := Option.some.inj H
                            obtain ⟨Ao147, co147, eo147⟩ := Kd.R_slice HO_16.out
                            subst eo147
                            obtain ⟨Ao148, co148, eo148⟩ := Kd.R_slice HO_19.out
                            subst eo148
                            go_wp2_with (first | (go_at_call 8; (with_reducible refine (plan_Right.calls k4 _ _ x19_4 t199 _ ?side1 ?side2 A90.out).mono ?_); (case side1 => repeat (first | exact (Kd.R_reads' HO_19.out).2.2 | (with_reducible refine Kd.C_alloc ?_ _) | (with_reducible refine Kd.C_drewN ?_ _) | (with_reducible refine Kd.C_drew ?_))); (case side2 => exact (Kd.R_reads' HO_19.out).2.1); rintro e w149 ⟨rfl, hb⟩; have n0_ := Aside0.mk (Kd.R_below (by (with_reducible repeat (first | apply Kd.R_alloc | apply Kd.R_drewN | apply Kd.R_drew)); exact HO_16.out) hb); have n1_ := Aside0.mk (Kd.R_below (by (with_reducible repeat (first | apply Kd.R_alloc | apply Kd.R_drewN | apply Kd.R_drew)); exact HO_19.out) hb); have n2_ := Aside0.mk (blk_below (g := gb138) (o := .cells #[.int .i64 ((rd_T34 y134 0).f0), .int .i64 ((rd_T34 y134 0).f1), .int .i64 x139002_29, .int .i64 ((rd_T34 y134 0).f3)] 34 (0, 0)) (by (with_reducible repeat (first | refine blk_drewN ?_ _ | refine blk_drew ?_ | refine blk_alloc ?_ _)); exact BK138.out) hb); have n3_ := Aside0.mk (below_step (by repeat (first | (with_reducible first | exact HB.out | apply below_alloc | apply pw_below_drewN | apply below_drew1 | refine below_set ?_ GE138.out) | exact HB.out)) hb); clear HO_16; clear HO_19; clear BK138; clear HB; have HO_16 := n0_; have HO_19 := n1_; have BK138 := n2_; have HB := n3_; clear n0_ n1_ n2_ n3_; (try clear hb); (try clear hb2); (try clear hk); (try clear hi)) | (go_at_call 13; (with_reducible refine (plan_Rate.calls k4 _ _ l0 a3 a4 t200 _ ?side1 ?side2 A91.out).mono ?_); (case side1 => repeat (first | exact (Kd.C_below HR0.out HB.out) | (with_reducible refine Kd.C_alloc ?_ _) | (with_reducible refine Kd.C_drewN ?_ _) | (with_reducible refine Kd.C_drew ?_))); (case side2 => exact HC0.out); rintro e w150 ⟨rfl, hb⟩; have n0_ := Aside0.mk (Kd.R_below (by (with_reducible repeat (first | apply Kd.R_alloc | apply Kd.R_drewN | apply Kd.R_drew)); exact HO_16.out) hb); have n1_ := Aside0.mk (Kd.R_below (by (with_reducible repeat (first | apply Kd.R_alloc | apply Kd.R_drewN | apply Kd.R_drew)); exact HO_19.out) hb); have n2_ := Aside0.mk (blk_below (g := gb138) (o := .cells #[.int .i64 ((rd_T34 y134 0).f0), .int .i64 ((rd_T34 y134 0).f1), .int .i64 x139002_29, .int .i64 ((rd_T34 y134 0).f3)] 34 (0, 0)) (by (with_reducible repeat (first | refine blk_drewN ?_ _ | refine blk_drew ?_ | refine blk_alloc ?_ _)); exact BK138.out) hb); have n3_ := Aside0.mk (below_step (by repeat (first | (with_reducible first | exact HB.out | apply below_alloc | apply pw_below_drewN | apply below_drew1 | refine below_set ?_ GE138.out) | exact HB.out)) hb); clear HO_16; clear HO_19; clear BK138; clear HB; have HO_16 := n0_; have HO_19 := n1_; have BK138 := n2_; have HB := n3_; clear n0_ n1_ n2_ n3_; (try clear hb); (try clear hb2); (try clear hk); (try clear hi)) | (go_at_call 13; (with_reducible refine (plan_Rate.calls k4 _ _ x19_4 a3 a4 t201 _ ?side1 ?side2 A92.out).mono ?_); (case side1 => repeat (first | exact (Kd.R_reads' HO_19.out).2.2 | (with_reducible refine Kd.C_alloc ?_ _) | (with_reducible refine Kd.C_drewN ?_ _) | (with_reducible refine Kd.C_drew ?_))); (case side2 => exact (Kd.R_reads' HO_19.out).2.1); rintro e w151 ⟨rfl, hb⟩; have n0_ := Aside0.mk (Kd.R_below (by (with_reducible repeat (first | apply Kd.R_alloc | apply Kd.R_drewN | apply Kd.R_drew)); exact HO_16.out) hb); have n1_ := Aside0.mk (Kd.R_below (by (with_reducible repeat (first | apply Kd.R_alloc | apply Kd.R_drewN | apply Kd.R_drew)); exact HO_19.out) hb); have n2_ := Aside0.mk (blk_below (g := gb138) (o := .cells #[.int .i64 ((rd_T34 y134 0).f0), .int .i64 ((rd_T34 y134 0).f1), .int .i64 x139002_29, .int .i64 ((rd_T34 y134 0).f3)] 34 (0, 0)) (by (with_reducible repeat (first | refine blk_drewN ?_ _ | refine blk_drew ?_ | refine blk_alloc ?_ _)); exact BK138.out) hb); have n3_ := Aside0.mk (below_step (by repeat (first | (with_reducible first | exact HB.out | apply below_alloc | apply pw_below_drewN | apply below_drew1 | refine below_set ?_ GE138.out) | exact HB.out)) hb); clear HO_16; clear HO_19; clear BK138; clear HB; have HO_16 := n0_; have HO_19 := n1_; have BK138 := n2_; have HB := n3_; clear n0_ n1_ n2_ n3_; (try clear hb); (try clear hb2); (try clear hk); (try clear hi)) | (go_at_call 17; (with_reducible refine (plan_Next.calls k4 _ _ l0 a3 a4 t202 _ ?side1 ?side2 A93.out).mono ?_); (case side1 => repeat (first | exact (Kd.C_below HR0.out HB.out) | (with_reducible refine Kd.C_alloc ?_ _) | (with_reducible refine Kd.C_drewN ?_ _) | (with_reducible refine Kd.C_drew ?_))); (case side2 => exact HC0.out); rintro e w152 ⟨rfl, hb⟩; have n0_ := Aside0.mk (Kd.R_below (by (with_reducible repeat (first | apply Kd.R_alloc | apply Kd.R_drewN | apply Kd.R_drew)); exact HO_16.out) hb); have n1_ := Aside0.mk (Kd.R_below (by (with_reducible repeat (first | apply Kd.R_alloc | apply Kd.R_drewN | apply Kd.R_drew)); exact HO_19.out) hb); have n2_ := Aside0.mk (blk_below (g := gb138) (o := .cells #[.int .i64 ((rd_T34 y134 0).f0), .int .i64 ((rd_T34 y134 0).f1), .int .i64 x139002_29, .int .i64 ((rd_T34 y134 0).f3)] 34 (0, 0)) (by (with_reducible repeat (first | refine blk_drewN ?_ _ | refine blk_drew ?_ | refine blk_alloc ?_ _)); exact BK138.out) hb); have n3_ := Aside0.mk (below_step (by repeat (first | (with_reducible first | exact HB.out | apply below_alloc | apply pw_below_drewN | apply below_drew1 | refine below_set ?_ GE138.out) | exact HB.out)) hb); clear HO_16; clear HO_19; clear BK138; clear HB; have HO_16 := n0_; have HO_19 := n1_; have BK138 := n2_; have HB := n3_; clear n0_ n1_ n2_ n3_; (try clear hb); (try clear hb2); (try clear hk); (try clear hi)) | (go_at_call 17; (with_reducible refine (plan_Next.calls k4 _ _ x19_4 a3 a4 t203 _ ?side1 ?side2 A94.out).mono ?_); (case side1 => repeat (first | exact (Kd.R_reads' HO_19.out).2.2 | (with_reducible refine Kd.C_alloc ?_ _) | (with_reducible refine Kd.C_drewN ?_ _) | (with_reducible refine Kd.C_drew ?_))); (case side2 => exact (Kd.R_reads' HO_19.out).2.1); rintro e w153 ⟨rfl, hb⟩; have n0_ := Aside0.mk (Kd.R_below (by (with_reducible repeat (first | apply Kd.R_alloc | apply Kd.R_drewN | apply Kd.R_drew)); exact HO_16.out) hb); have n1_ := Aside0.mk (Kd.R_below (by (with_reducible repeat (first | apply Kd.R_alloc | apply Kd.R_drewN | apply Kd.R_drew)); exact HO_19.out) hb); have n2_ := Aside0.mk (blk_below (g := gb138) (o := .cells #[.int .i64 ((rd_T34 y134 0).f0), .int .i64 ((rd_T34 y134 0).f1), .int .i64 x139002_29, .int .i64 ((rd_T34 y134 0).f3)] 34 (0, 0)) (by (with_reducible repeat (first | refine blk_drewN ?_ _ | refine blk_drew ?_ | refine blk_alloc ?_ _)); exact BK138.out) hb); have n3_ := Aside0.mk (below_step (by repeat (first | (with_reducible first | exact HB.out | apply below_alloc | apply pw_below_drewN | apply below_drew1 | refine below_set ?_ GE138.out) | exact HB.out)) hb); clear HO_16; clear HO_19; clear BK138; clear HB; have HO_16 := n0_; have HO_19 := n1_; have BK138 := n2_; have HB := n3_; clear n0_ n1_ n2_ n3_; (try clear hb); (try clear hb2); (try clear hk); (try clear hi)) | (go_at_call 12; (with_reducible refine (plan_Total.calls k4 _ _ l0 a3 0 a4 t204 _ ?side1 ?side2 A95.out).mono ?_); (case side1 => repeat (first | exact (Kd.C_below HR0.out HB.out) | (with_reducible refine Kd.C_alloc ?_ _) | (with_reducible refine Kd.C_drewN ?_ _) | (with_reducible refine Kd.C_drew ?_))); (case side2 => exact HC0.out); rintro e w154 ⟨rfl, hb⟩; have n0_ := Aside0.mk (Kd.R_below (by (with_reducible repeat (first | apply Kd.R_alloc | apply Kd.R_drewN | apply Kd.R_drew)); exact HO_16.out) hb); have n1_ := Aside0.mk (Kd.R_below (by (with_reducible repeat (first | apply Kd.R_alloc | apply Kd.R_drewN | apply Kd.R_drew)); exact HO_19.out) hb); have n2_ := Aside0.mk (blk_below (g := gb138) (o := .cells #[.int .i64 ((rd_T34 y134 0).f0), .int .i64 ((rd_T34 y134 0).f1), .int .i64 x139002_29, .int .i64 ((rd_T34 y134 0).f3)] 34 (0, 0)) (by (with_reducible repeat (first | refine blk_drewN ?_ _ | refine blk_drew ?_ | refine blk_alloc ?_ _)); exact BK138.out) hb); have n3_ := Aside0.mk (below_step (by repeat (first | (with_reducible first | exact HB.out | apply below_alloc | apply pw_below_drewN | apply below_drew1 | refine below_set ?_ GE138.out) | exact HB.out)) hb); clear HO_16; clear HO_19; clear BK138; clear HB; have HO_16 := n0_; have HO_19 := n1_; have BK138 := n2_; have HB := n3_; clear n0_ n1_ n2_ n3_; (try clear hb); (try clear hb2); (try clear hk); (try clear hi)) | (go_at_call 12; (with_reducible refine (plan_Total.calls k4 _ _ x19_4 a3 0 a4 t205 _ ?side1 ?side2 A96.out).mono ?_); (case side1 => repeat (first | exact (Kd.R_reads' HO_19.out).2.2 | (with_reducible refine Kd.C_alloc ?_ _) | (with_reducible refine Kd.C_drewN ?_ _) | (with_reducible refine Kd.C_drew ?_))); (case side2 => exact (Kd.R_reads' HO_19.out).2.1); rintro e w155 ⟨rfl, hb⟩; have n0_ := Aside0.mk (Kd.R_below (by (with_reducible repeat (first | apply Kd.R_alloc | apply Kd.R_drewN | apply Kd.R_drew)); exact HO_16.out) hb); have n1_ := Aside0.mk (Kd.R_below (by (with_reducible repeat (first | apply Kd.R_alloc | apply Kd.R_drewN | apply Kd.R_drew)); exact HO_19.out) hb); have n2_ := Aside0.mk (blk_below (g := gb138) (o := .cells #[.int .i64 ((rd_T34 y134 0).f0), .int .i64 ((rd_T34 y134 0).f1), .int .i64 x139002_29, .int .i64 ((rd_T34 y134 0).f3)] 34 (0, 0)) (by (with_reducible repeat (first | refine blk_drewN ?_ _ | refine blk_drew ?_ | refine blk_alloc ?_ _)); exact BK138.out) hb); have n3_ := Aside0.mk (below_step (by repeat (first | (with_reducible first | exact HB.out | apply below_alloc | apply pw_below_drewN | apply below_drew1 | refine below_set ?_ GE138.out) | exact HB.out)) hb); clear HO_16; clear HO_19; clear BK138; clear HB; have HO_16 := n0_; have HO_19 := n1_; have BK138 := n2_; have HB := n3_; clear n0_ n1_ n2_ n3_; (try clear hb); (try clear hb2); (try clear hk); (try clear hi)) | (go_at_call 11; (with_reducible refine (plan_When.calls k4 _ _ l0 a3 a4 a5 t206 _ ?side1 ?side2 A97.out).mono ?_); (case side1 => repeat (first | exact (Kd.C_below HR0.out HB.out) | (with_reducible refine Kd.C_alloc ?_ _) | (with_reducible refine Kd.C_drewN ?_ _) | (with_reducible refine Kd.C_drew ?_))); (case side2 => exact HC0.out); rintro e w156 ⟨rfl, hb⟩; have n0_ := Aside0.mk (Kd.R_below (by (with_reducible repeat (first | apply Kd.R_alloc | apply Kd.R_drewN | apply Kd.R_drew)); exact HO_16.out) hb); have n1_ := Aside0.mk (Kd.R_below (by (with_reducible repeat (first | apply Kd.R_alloc | apply Kd.R_drewN | apply Kd.R_drew)); exact HO_19.out) hb); have n2_ := Aside0.mk (blk_below (g := gb138) (o := .cells #[.int .i64 ((rd_T34 y134 0).f0), .int .i64 ((rd_T34 y134 0).f1), .int .i64 x139002_29, .int .i64 ((rd_T34 y134 0).f3)] 34 (0, 0)) (by (with_reducible repeat (first | refine blk_drewN ?_ _ | refine blk_drew ?_ | refine blk_alloc ?_ _)); exact BK138.out) hb); have n3_ := Aside0.mk (below_step (by repeat (first | (with_reducible first | exact HB.out | apply below_alloc | apply pw_below_drewN | apply below_drew1 | refine below_set ?_ GE138.out) | exact HB.out)) hb); clear HO_16; clear HO_19; clear BK138; clear HB; have HO_16 := n0_; have HO_19 := n1_; have BK138 := n2_; have HB := n3_; clear n0_ n1_ n2_ n3_; (try clear hb); (try clear hb2); (try clear hk); (try clear hi)) | (go_at_call 11; (with_reducible refine (plan_When.calls k4 _ _ x19_4 a3 a4 a5 t207 _ ?side1 ?side2 A98.out).mono ?_); (case side1 => repeat (first | exact (Kd.R_reads' HO_19.out).2.2 | (with_reducible refine Kd.C_alloc ?_ _) | (with_reducible refine Kd.C_drewN ?_ _) | (with_reducible refine Kd.C_drew ?_))); (case side2 => exact (Kd.R_reads' HO_19.out).2.1); rintro e w157 ⟨rfl, hb⟩; have n0_ := Aside0.mk (Kd.R_below (by (with_reducible repeat (first | apply Kd.R_alloc | apply Kd.R_drewN | apply Kd.R_drew)); exact HO_16.out) hb); have n1_ := Aside0.mk (Kd.R_below (by (with_reducible repeat (first | apply Kd.R_alloc | apply Kd.R_drewN | apply Kd.R_drew)); exact HO_19.out) hb); have n2_ := Aside0.mk (blk_below (g := gb138) (o := .cells #[.int .i64 ((rd_T34 y134 0).f0), .int .i64 ((rd_T34 y134 0).f1), .int .i64 x139002_29, .int .i64 ((rd_T34 y134 0).f3)] 34 (0, 0)) (by (with_reducible repeat (first | refine blk_drewN ?_ _ | refine blk_drew ?_ | refine blk_alloc ?_ _)); exact BK138.out) hb); have n3_ := Aside0.mk (below_step (by repeat (first | (with_reducible first | exact HB.out | apply below_alloc | apply pw_below_drewN | apply below_drew1 | refine below_set ?_ GE138.out) | exact HB.out)) hb); clear HO_16; clear HO_19; clear BK138; clear HB; have HO_16 := n0_; have HO_19 := n1_; have BK138 := n2_; have HB := n3_; clear n0_ n1_ n2_ n3_; (try clear hb); (try clear hb2); (try clear hk); (try clear hi)))
                            go_ret
                            exact ⟨by first | rfl | (simp [errW_none, errW_some] <;> rfl) | (simp [*, errW_none, errW_some] <;> rfl), by repeat (first | (with_reducible first | exact HB.out | apply below_alloc | apply pw_below_drewN | apply below_drew1 | refine below_set ?_ GE138.out) | exact HB.out)⟩
          · rw [if_neg c21] at H
            exact absurd H (by simp)
        · rw [if_neg c20] at H
          exact absurd H (by simp)

end Go.Proofs.Ytogekdbbgpaelaa.PAll
