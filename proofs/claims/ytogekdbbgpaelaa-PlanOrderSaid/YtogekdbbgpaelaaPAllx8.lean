/- Contracts of functions of the program: what each call answers, and that nothing that was there has changed; written by a program of the session over the printer, or by hand; no condition beside those in each statement. -/
import Derived.Test.YtogekdbbgpaelaaPAllx0
import Derived.Test.YtogekdbbgpaelaaPAllx2
import Derived.Test.YtogekdbbgpaelaaPAllx5
import Derived.Test.YtogekdbbgpaelaaPAllx6
namespace Go.Proofs.Ytogekdbbgpaelaa.PAll
open Go.RowKit Go.Proofs.YtogekdbbgpaelaaW.PrintWords Go.Proofs.YtogekdbbgpaelaaW.PrintLast Go.Proofs.YtogekdbbgpaelaaW.PrintMore
attribute [local go_sem] max2_int min2_int max_two min_two max_three min_three max_four min_four   -- for this text's walks alone
set_option linter.unusedVariables false
set_option linter.unusedSimpArgs false

/-! ### lanternlaw09_PlanAdds: function 5 -/
mutual
def lanternlaw09_PlanAdds.j0 : Nat → List (S34) → Int → Int → Int → Int → Bool → Int → Int → Bool → Option (Bool)
  | 0, _, _, _, _, _, _, _, _, _ => none
  | k + 1, x0, x1, x2, x3, x4, x11, x12, x13, x39 => if x39 = true then (if x11 = true then (some (x12 == x13)) else (some false)) else ((lanternlaw09_tick.f x2).bind fun t210 => ((lanternlaw09_tick.f x3).bind fun t211 => ((lanternlaw09_tick.f x4).bind fun t212 => ((plan_Total.f k x0 x1 t210 (mx t210 t211)).bind fun t213 => ((plan_Total.f k x0 x1 (mx t210 t211) (mx (mx t210 t211) t212)).bind fun t214 => ((plan_Total.f k x0 x1 t210 (mx (mx t210 t211) t212)).bind fun t215 => ((plan_Total.f k x0 x1 t210 (wrap64 (t210 + 1))).bind fun t216 => ((plan_Rate.f k x0 x1 t210).bind fun t217 => (if (wrap64 (t213 + t214)) = t215 then (if t213 < 0 then (lanternlaw09_PlanAdds.j1 k x0 x1 t210 (mx (mx t210 t211) t212) t215 t217 true) else (if t214 < 0 then (lanternlaw09_PlanAdds.j1 k x0 x1 t210 (mx (mx t210 t211) t212) t215 t217 true) else (if t210 < 1099511627776 then (if t216 = t217 then (if t217 < 0 then (lanternlaw09_PlanAdds.j1 k x0 x1 t210 (mx (mx t210 t211) t212) t215 t217 true) else (lanternlaw09_PlanAdds.j1 k x0 x1 t210 (mx (mx t210 t211) t212) t215 t217 (decide (t217 > 1000)))) else (lanternlaw09_PlanAdds.j1 k x0 x1 t210 (mx (mx t210 t211) t212) t215 t217 true)) else (if t217 < 0 then (lanternlaw09_PlanAdds.j1 k x0 x1 t210 (mx (mx t210 t211) t212) t215 t217 true) else (lanternlaw09_PlanAdds.j1 k x0 x1 t210 (mx (mx t210 t211) t212) t215 t217 (decide (t217 > 1000))))))) else (lanternlaw09_PlanAdds.j1 k x0 x1 t210 (mx (mx t210 t211) t212) t215 t217 true))))))))))
def lanternlaw09_PlanAdds.j1 : Nat → List (S34) → Int → Int → Int → Int → Int → Bool → Option (Bool)
  | 0, _, _, _, _, _, _, _ => none
  | k + 1, x0, x1, x2, x4, x16, x18, x110 => if x110 = true then (some false) else ((plan_Next.f k x0 x1 x2).bind fun t218 => (if t218 < 0 then ((plan_Rate.f k x0 x1 x4).bind fun t219 => (if t218 = (-1) then (if t219 = x18 then (some (x16 == (wrap64 (x18 * (wrap64 (x4 - x2)))))) else (some false)) else (some false))) else ((plan_Rate.f k x0 x1 (wrap64 (t218 - 1))).bind fun t220 => ((plan_Rate.f k x0 x1 t218).bind fun t221 => ((plan_Total.f k x0 x1 x2 t218).bind fun t222 => (if t218 > x2 then (if t218 ≤ 1099511627776 then (if t220 = x18 then (if t221 = x18 then (some false) else (some (t222 == (wrap64 (x18 * (wrap64 (t218 - x2))))))) else (some false)) else (some false)) else (some false)))))))
end
def lanternlaw09_PlanAdds.f (k : Nat) (l0 : List (S34)) (a1 : Int) (a2 : Int) (a3 : Int) (a4 : Int) : Option (Bool) := (lanternlaw09_awake.f k).bind fun t207 => ((plan_Right.f k l0).bind fun t208 => ((lanternref09_Right.f k l0).bind fun t209 => (if t207 = true then (if t208 = t209 then (lanternlaw09_PlanAdds.j0 k l0 a1 a2 a3 a4 t207 t208 t209 (t208 != 0)) else (lanternlaw09_PlanAdds.j0 k l0 a1 a2 a3 a4 t207 t208 t209 true)) else (lanternlaw09_PlanAdds.j0 k l0 a1 a2 a3 a4 t207 t208 t209 true))))
theorem lanternlaw09_PlanAdds.mono_l : ∀ k, (∀ y0 y1 y2 y3 y4 y5 y6 y7 y8, LeO (lanternlaw09_PlanAdds.j0 k y0 y1 y2 y3 y4 y5 y6 y7 y8) (lanternlaw09_PlanAdds.j0 (k + 1) y0 y1 y2 y3 y4 y5 y6 y7 y8)) ∧ (∀ y0 y1 y2 y3 y4 y5 y6, LeO (lanternlaw09_PlanAdds.j1 k y0 y1 y2 y3 y4 y5 y6) (lanternlaw09_PlanAdds.j1 (k + 1) y0 y1 y2 y3 y4 y5 y6))
  | 0 => ⟨fun _ _ _ _ _ _ _ _ _ r h => by simp [lanternlaw09_PlanAdds.j0] at h, fun _ _ _ _ _ _ _ r h => by simp [lanternlaw09_PlanAdds.j1] at h⟩
  | k + 1 => by
    obtain ⟨ih0, ih1⟩ := lanternlaw09_PlanAdds.mono_l k
    refine ⟨?_, ?_⟩
    · intro y0 y1 y2 y3 y4 y5 y6 y7 y8
      unfold lanternlaw09_PlanAdds.j0
      repeat' first
      | (with_reducible exact ih0 _ _ _ _ _ _ _ _ _)
      | (with_reducible exact ih1 _ _ _ _ _ _ _)
      | (with_reducible exact lanternlaw09_awake.mono _)
      | (with_reducible exact lanternref09_Right.mono _ _)
      | (with_reducible exact plan_Next.mono _ _ _ _)
      | (with_reducible exact plan_Rate.mono _ _ _ _)
      | (with_reducible exact plan_Right.mono _ _)
      | (with_reducible exact plan_Total.mono _ _ _ _ _)
      | (with_reducible exact LeO.refl _)
      | (with_reducible exact LeO.none _)
      | (with_reducible refine LeO.ite ?_ ?_)
      | (with_reducible refine LeO.bind ?_ (fun _ => ?_))
      | exact ih0 _ _ _ _ _ _ _ _ _
      | exact ih1 _ _ _ _ _ _ _
      | exact lanternlaw09_awake.mono _
      | exact lanternref09_Right.mono _ _
      | exact plan_Next.mono _ _ _ _
      | exact plan_Rate.mono _ _ _ _
      | exact plan_Right.mono _ _
      | exact plan_Total.mono _ _ _ _ _
      | exact LeO.none _
      | refine LeO.ite ?_ ?_
      | refine LeO.bind ?_ (fun _ => ?_)
    · intro y0 y1 y2 y3 y4 y5 y6
      unfold lanternlaw09_PlanAdds.j1
      repeat' first
      | (with_reducible exact ih0 _ _ _ _ _ _ _ _ _)
      | (with_reducible exact ih1 _ _ _ _ _ _ _)
      | (with_reducible exact lanternlaw09_awake.mono _)
      | (with_reducible exact lanternref09_Right.mono _ _)
      | (with_reducible exact plan_Next.mono _ _ _ _)
      | (with_reducible exact plan_Rate.mono _ _ _ _)
      | (with_reducible exact plan_Right.mono _ _)
      | (with_reducible exact plan_Total.mono _ _ _ _ _)
      | (with_reducible exact LeO.refl _)
      | (with_reducible exact LeO.none _)
      | (with_reducible refine LeO.ite ?_ ?_)
      | (with_reducible refine LeO.bind ?_ (fun _ => ?_))
      | exact ih0 _ _ _ _ _ _ _ _ _
      | exact ih1 _ _ _ _ _ _ _
      | exact lanternlaw09_awake.mono _
      | exact lanternref09_Right.mono _ _
      | exact plan_Next.mono _ _ _ _
      | exact plan_Rate.mono _ _ _ _
      | exact plan_Right.mono _ _
      | exact plan_Total.mono _ _ _ _ _
      | exact LeO.none _
      | refine LeO.ite ?_ ?_
      | refine LeO.bind ?_ (fun _ => ?_)
theorem lanternlaw09_PlanAdds.mono : ∀ a0 a1 a2 a3 a4 k, LeO (lanternlaw09_PlanAdds.f k a0 a1 a2 a3 a4) (lanternlaw09_PlanAdds.f (k + 1) a0 a1 a2 a3 a4) := by
  intro a0 a1 a2 a3 a4 k
  obtain ⟨ih0, ih1⟩ := lanternlaw09_PlanAdds.mono_l k
  unfold lanternlaw09_PlanAdds.f
  repeat' first
      | (with_reducible exact ih0 _ _ _ _ _ _ _ _ _)
      | (with_reducible exact ih1 _ _ _ _ _ _ _)
      | (with_reducible exact lanternlaw09_awake.mono _)
      | (with_reducible exact lanternref09_Right.mono _ _)
      | (with_reducible exact plan_Next.mono _ _ _ _)
      | (with_reducible exact plan_Rate.mono _ _ _ _)
      | (with_reducible exact plan_Right.mono _ _)
      | (with_reducible exact plan_Total.mono _ _ _ _ _)
      | (with_reducible exact LeO.refl _)
      | (with_reducible exact LeO.none _)
      | (with_reducible refine LeO.ite ?_ ?_)
      | (with_reducible refine LeO.bind ?_ (fun _ => ?_))
      | exact ih0 _ _ _ _ _ _ _ _ _
      | exact ih1 _ _ _ _ _ _ _
      | exact lanternlaw09_awake.mono _
      | exact lanternref09_Right.mono _ _
      | exact plan_Next.mono _ _ _ _
      | exact plan_Rate.mono _ _ _ _
      | exact plan_Right.mono _ _
      | exact plan_Total.mono _ _ _ _ _
      | exact LeO.none _
      | refine LeO.ite ?_ ?_
      | refine LeO.bind ?_ (fun _ => ?_)
set_option maxHeartbeats 8000000 in
set_option maxRecDepth 100000 in
theorem lanternlaw09_PlanAdds.calls (k : Nat) (A0 : Option Addr) (c0 : Nat) (l0 : List (S34)) (a1 : Int) (a2 : Int) (a3 : Int) (a4 : Int) (r : Bool) (w : World) (hr0 : Kd.C k34 w A0 l0.length l0) (hc0 : l0.length ≤ c0) (h : lanternlaw09_PlanAdds.f k l0 a1 a2 a3 a4 = some r) :
    Calls Try.prog 5 #[.slice A0 l0.length c0, .int .i64 a1, .int .i64 a2, .int .i64 a3, .int .i64 a4] w fun e w' => e = .returned (.bool r) ∧ Below w.heap.size w w' := by
  have HR0 := Aside0.mk hr0
  have HC0 := Aside0.mk hc0
  clear hr0 hc0
  have HB := Aside0.mk (Below.refl w.heap.size w)
  have H : ((lanternlaw09_awake.f k).bind fun t207 => ((plan_Right.f k l0).bind fun t208 => ((lanternref09_Right.f k l0).bind fun t209 => (if t207 = true then (if t208 = t209 then (lanternlaw09_PlanAdds.j0 k l0 a1 a2 a3 a4 t207 t208 t209 (t208 != 0)) else (lanternlaw09_PlanAdds.j0 k l0 a1 a2 a3 a4 t207 t208 t209 true)) else (lanternlaw09_PlanAdds.j0 k l0 a1 a2 a3 a4 t207 t208 t209 true))))) = some r := h
  clear h
  replace H := Option.bind_eq_some_iff.mp H
  obtain ⟨t207, A60, H⟩ := H
  replace H : ((plan_Right.f k l0).bind fun t208 => ((lanternref09_Right.f k l0).bind fun t209 => (if t207 = true then (if t208 = t209 then (lanternlaw09_PlanAdds.j0 k l0 a1 a2 a3 a4 t207 t208 t209 (t208 != 0)) else (lanternlaw09_PlanAdds.j0 k l0 a1 a2 a3 a4 t207 t208 t209 true)) else (lanternlaw09_PlanAdds.j0 k l0 a1 a2 a3 a4 t207 t208 t209 true)))) = some r := H
  have A6 := Aside0.mk A60
  clear A60
  replace H := Option.bind_eq_some_iff.mp H
  obtain ⟨t208, A70, H⟩ := H
  replace H : ((lanternref09_Right.f k l0).bind fun t209 => (if t207 = true then (if t208 = t209 then (lanternlaw09_PlanAdds.j0 k l0 a1 a2 a3 a4 t207 t208 t209 (t208 != 0)) else (lanternlaw09_PlanAdds.j0 k l0 a1 a2 a3 a4 t207 t208 t209 true)) else (lanternlaw09_PlanAdds.j0 k l0 a1 a2 a3 a4 t207 t208 t209 true))) = some r := H
  have A7 := Aside0.mk A70
  clear A70
  replace H := Option.bind_eq_some_iff.mp H
  obtain ⟨t209, A80, H⟩ := H
  replace H : (if t207 = true then (if t208 = t209 then (lanternlaw09_PlanAdds.j0 k l0 a1 a2 a3 a4 t207 t208 t209 (t208 != 0)) else (lanternlaw09_PlanAdds.j0 k l0 a1 a2 a3 a4 t207 t208 t209 true)) else (lanternlaw09_PlanAdds.j0 k l0 a1 a2 a3 a4 t207 t208 t209 true)) = some r := H
  have A8 := Aside0.mk A80
  clear A80
  have HC9 := Aside0.mk H
  clear H
  go_enter Try.func5, Try.ntmps5
  go_upto_region 4 with (first | ((with_reducible refine gate_callee (f := 7) rfl ?_); refine goesL_ (some 24) rfl rfl Try.func7 (by kernel_rfl) rfl #[] rfl (by (try simp only [List.map_toArray, List.map_cons, List.map_nil]); first | done | rfl | (simp only [List.length_drop, List.length_take]; rfl)) ?_; (with_reducible refine (lanternlaw09_awake.calls k  t207 _ A6.out).mono ?_); rintro e w10 ⟨rfl, hb⟩; refine ⟨_, rfl, ?_⟩; have n0_ := Aside0.mk (below_step (by repeat (first | (with_reducible first | exact HB.out | apply below_alloc | apply pw_below_drewN | apply below_drew1) | exact HB.out)) hb); clear HB; have HB := n0_; clear n0_; (try clear hb); (try clear hb2); (try clear hk); (try clear hi)) | ((with_reducible refine gate_callee (f := 8) rfl ?_); refine goesL_ (some 26) rfl rfl Try.func8 (by kernel_rfl) rfl #[.slice A0 l0.length c0] rfl (by (try simp only [List.map_toArray, List.map_cons, List.map_nil]); first | done | rfl | (simp only [List.length_drop, List.length_take]; rfl)) ?_; (with_reducible refine (plan_Right.calls k _ _ l0 t208 _ ?side1 ?side2 A7.out).mono ?_); (case side1 => repeat (first | exact (Kd.C_below HR0.out HB.out) | (with_reducible refine Kd.C_alloc ?_ _) | (with_reducible refine Kd.C_drewN ?_ _) | (with_reducible refine Kd.C_drew ?_))); (case side2 => exact HC0.out); rintro e w11 ⟨rfl, hb⟩; refine ⟨_, rfl, ?_⟩; have n0_ := Aside0.mk (below_step (by repeat (first | (with_reducible first | exact HB.out | apply below_alloc | apply pw_below_drewN | apply below_drew1) | exact HB.out)) hb); clear HB; have HB := n0_; clear n0_; (try clear hb); (try clear hb2); (try clear hk); (try clear hi)) | ((with_reducible refine gate_callee (f := 9) rfl ?_); refine goesL_ (some 28) rfl rfl Try.func9 (by kernel_rfl) rfl #[.slice A0 l0.length c0] rfl (by (try simp only [List.map_toArray, List.map_cons, List.map_nil]); first | done | rfl | (simp only [List.length_drop, List.length_take]; rfl)) ?_; (with_reducible refine (lanternref09_Right.calls k _ _ l0 t209 _ ?side1 ?side2 A8.out).mono ?_); (case side1 => repeat (first | exact (Kd.C_below HR0.out HB.out) | (with_reducible refine Kd.C_alloc ?_ _) | (with_reducible refine Kd.C_drewN ?_ _) | (with_reducible refine Kd.C_drew ?_))); (case side2 => exact HC0.out); rintro e w12 ⟨rfl, hb⟩; refine ⟨_, rfl, ?_⟩; have n0_ := Aside0.mk (below_step (by repeat (first | (with_reducible first | exact HB.out | apply below_alloc | apply pw_below_drewN | apply below_drew1) | exact HB.out)) hb); clear HB; have HB := n0_; clear n0_; (try clear hb); (try clear hb2); (try clear hk); (try clear hi)))
  (try simp only [Act.put, List.setIfInBounds_toArray, List.set_cons_zero, List.set_cons_succ])
  go_cut [39] (fun v39 wc => ∃ (kq : Nat) (x39_8 : Bool), v39 = .bool x39_8 ∧ Aside0 (lanternlaw09_PlanAdds.j0 kq l0 a1 a2 a3 a4 t207 t208 t209 x39_8 = some r) ∧ Aside0 (kq ≤ k) ∧ Aside0 (Below w.heap.size w wc))
  case first =>
    have H := HC9.out
    clear HC9
    by_cases c13 : t207 = true
    · subst c13
      have H1 : (if t208 = t209 then (lanternlaw09_PlanAdds.j0 k l0 a1 a2 a3 a4 true t208 t209 (t208 != 0)) else (lanternlaw09_PlanAdds.j0 k l0 a1 a2 a3 a4 true t208 t209 true)) = some r := by rw [if_pos rfl] at H; exact H
      clear H
      have H := H1
      clear H1
      by_cases c14 : t208 = t209
      · rw [if_pos c14] at H
        have c14b0 : (t208 == t209) = true := beq_iff_eq.mpr c14
        have c14b1 : (t208 != t209) = false := bne_eq_false_iff_eq.mpr c14
        clear c14
        (first | rw [c14b0] | (simp only [i64_w, i32_w]; rw [c14b0]) | skip)
        have H' := Aside0.mk H
        clear H
        go_wp2
        go_meet
        case rel => exact ⟨_, ((t208 != 0)), (by first | rfl | (simp; done) | (simp [*]; done)), H', ⟨by first | omega | exact Nat.le_refl _⟩, ⟨by repeat (first | (with_reducible first | exact HB.out | apply below_alloc | apply pw_below_drewN | apply below_drew1) | exact HB.out)⟩⟩
      · rw [if_neg c14] at H
        have c14b0 : (t208 == t209) = false := beq_eq_false_iff_ne.mpr c14
        have c14b1 : (t208 != t209) = true := bne_iff_ne.mpr c14
        (first | rw [c14b0] | (simp only [i64_w, i32_w]; rw [c14b0]) | skip)
        have H' := Aside0.mk H
        clear H
        go_wp2
        go_meet
        case rel => exact ⟨_, (true), (by first | rfl | (simp; done) | (simp [*]; done)), H', ⟨by first | omega | exact Nat.le_refl _⟩, ⟨by repeat (first | (with_reducible first | exact HB.out | apply below_alloc | apply pw_below_drewN | apply below_drew1) | exact HB.out)⟩⟩
    · replace c13 := Bool.eq_false_iff.mpr c13
      subst c13
      have H1 : (lanternlaw09_PlanAdds.j0 k l0 a1 a2 a3 a4 false t208 t209 true) = some r := by rw [if_neg (show ¬ (false = true) by decide)] at H; exact H
      clear H
      have H := H1
      clear H1
      have H' := Aside0.mk H
      clear H
      go_wp2
      go_meet
      case rel => exact ⟨_, (true), (by first | rfl | (simp; done) | (simp [*]; done)), H', ⟨by first | omega | exact Nat.le_refl _⟩, ⟨by repeat (first | (with_reducible first | exact HB.out | apply below_alloc | apply pw_below_drewN | apply below_drew1) | exact HB.out)⟩⟩
  case rest =>
    clear HC9
    try clear c1
    try clear p2
    try clear c5
    try clear c7
    try clear c8
    try clear c9
    try clear c13
    try clear c14
    try clear c14b0
    try clear c14b1
    obtain ⟨kq, x39_8, rfl, HA, HJ8, HB⟩ := hcut
    cases kq with
    | zero => exact absurd HA.out (by simp [lanternlaw09_PlanAdds.j0])
    | succ kj8 =>
      have H := HA.out
      clear HA
      simp only [lanternlaw09_PlanAdds.j0] at H
      by_cases c15 : x39_8 = true
      · subst c15
        have H1 : (if t207 = true then (some (t208 == t209)) else (some false)) = some r := by rw [if_pos rfl] at H; exact H
        clear H
        have H := H1
        clear H1
        by_cases c16 : t207 = true
        · subst c16
          have H1 : (some (t208 == t209)) = some r := by rw [if_pos rfl] at H; exact H
          clear H
          have H := H1
          clear H1
          obtain rfl := Option.some.inj H
          go_wp2
          go_ret
          exact ⟨by first | rfl | (simp [errW_none, errW_some] <;> rfl) | (simp [*, errW_none, errW_some] <;> rfl), by repeat (first | (with_reducible first | exact HB.out | apply below_alloc | apply pw_below_drewN | apply below_drew1) | exact HB.out)⟩
        · replace c16 := Bool.eq_false_iff.mpr c16
          subst c16
          have H1 : (some false) = some r := by rw [if_neg (show ¬ (false = true) by decide)] at H; exact H
          clear H
          have H := H1
          clear H1
          obtain rfl := Option.some.inj H
          go_wp2
          go_ret
          exact ⟨by first | rfl | (simp [errW_none, errW_some] <;> rfl) | (simp [*, errW_none, errW_some] <;> rfl), by repeat (first | (with_reducible first | exact HB.out | apply below_alloc | apply pw_below_drewN | apply below_drew1) | exact HB.out)⟩
      · replace c15 := Bool.eq_false_iff.mpr c15
        subst c15
        have H1 : ((lanternlaw09_tick.f a2).bind fun t210 => ((lanternlaw09_tick.f a3).bind fun t211 => ((lanternlaw09_tick.f a4).bind fun t212 => ((plan_Total.f kj8 l0 a1 t210 (mx t210 t211)).bind fun t213 => ((plan_Total.f kj8 l0 a1 (mx t210 t211) (mx (mx t210 t211) t212)).bind fun t214 => ((plan_Total.f kj8 l0 a1 t210 (mx (mx t210 t211) t212)).bind fun t215 => ((plan_Total.f kj8 l0 a1 t210 (wrap64 (t210 + 1))).bind fun t216 => ((plan_Rate.f kj8 l0 a1 t210).bind fun t217 => (if (wrap64 (t213 + t214)) = t215 then (if t213 < 0 then (lanternlaw09_PlanAdds.j1 kj8 l0 a1 t210 (mx (mx t210 t211) t212) t215 t217 true) else (if t214 < 0 then (lanternlaw09_PlanAdds.j1 kj8 l0 a1 t210 (mx (mx t210 t211) t212) t215 t217 true) else (if t210 < 1099511627776 then (if t216 = t217 then (if t217 < 0 then (lanternlaw09_PlanAdds.j1 kj8 l0 a1 t210 (mx (mx t210 t211) t212) t215 t217 true) else (lanternlaw09_PlanAdds.j1 kj8 l0 a1 t210 (mx (mx t210 t211) t212) t215 t217 (decide (t217 > 1000)))) else (lanternlaw09_PlanAdds.j1 kj8 l0 a1 t210 (mx (mx t210 t211) t212) t215 t217 true)) else (if t217 < 0 then (lanternlaw09_PlanAdds.j1 kj8 l0 a1 t210 (mx (mx t210 t211) t212) t215 t217 true) else (lanternlaw09_PlanAdds.j1 kj8 l0 a1 t210 (mx (mx t210 t211) t212) t215 t217 (decide (t217 > 1000))))))) else (lanternlaw09_PlanAdds.j1 kj8 l0 a1 t210 (mx (mx t210 t211) t212) t215 t217 true)))))))))) = some r := by rw [if_neg (show ¬ (false = true) by decide)] at H; exact H
        clear H
        have H := H1
        clear H1
        replace H := Option.bind_eq_some_iff.mp H
        obtain ⟨t210, A170, H⟩ := H
        replace H : ((lanternlaw09_tick.f a3).bind fun t211 => ((lanternlaw09_tick.f a4).bind fun t212 => ((plan_Total.f kj8 l0 a1 t210 (mx t210 t211)).bind fun t213 => ((plan_Total.f kj8 l0 a1 (mx t210 t211) (mx (mx t210 t211) t212)).bind fun t214 => ((plan_Total.f kj8 l0 a1 t210 (mx (mx t210 t211) t212)).bind fun t215 => ((plan_Total.f kj8 l0 a1 t210 (wrap64 (t210 + 1))).bind fun t216 => ((plan_Rate.f kj8 l0 a1 t210).bind fun t217 => (if (wrap64 (t213 + t214)) = t215 then (if t213 < 0 then (lanternlaw09_PlanAdds.j1 kj8 l0 a1 t210 (mx (mx t210 t211) t212) t215 t217 true) else (if t214 < 0 then (lanternlaw09_PlanAdds.j1 kj8 l0 a1 t210 (mx (mx t210 t211) t212) t215 t217 true) else (if t210 < 1099511627776 then (if t216 = t217 then (if t217 < 0 then (lanternlaw09_PlanAdds.j1 kj8 l0 a1 t210 (mx (mx t210 t211) t212) t215 t217 true) else (lanternlaw09_PlanAdds.j1 kj8 l0 a1 t210 (mx (mx t210 t211) t212) t215 t217 (decide (t217 > 1000)))) else (lanternlaw09_PlanAdds.j1 kj8 l0 a1 t210 (mx (mx t210 t211) t212) t215 t217 true)) else (if t217 < 0 then (lanternlaw09_PlanAdds.j1 kj8 l0 a1 t210 (mx (mx t210 t211) t212) t215 t217 true) else (lanternlaw09_PlanAdds.j1 kj8 l0 a1 t210 (mx (mx t210 t211) t212) t215 t217 (decide (t217 > 1000))))))) else (lanternlaw09_PlanAdds.j1 kj8 l0 a1 t210 (mx (mx t210 t211) t212) t215 t217 true))))))))) = some r := H
        have A17 := Aside0.mk A170
        clear A170
        replace H := Option.bind_eq_some_iff.mp H
        obtain ⟨t211, A180, H⟩ := H
        replace H : ((lanternlaw09_tick.f a4).bind fun t212 => ((plan_Total.f kj8 l0 a1 t210 (mx t210 t211)).bind fun t213 => ((plan_Total.f kj8 l0 a1 (mx t210 t211) (mx (mx t210 t211) t212)).bind fun t214 => ((plan_Total.f kj8 l0 a1 t210 (mx (mx t210 t211) t212)).bind fun t215 => ((plan_Total.f kj8 l0 a1 t210 (wrap64 (t210 + 1))).bind fun t216 => ((plan_Rate.f kj8 l0 a1 t210).bind fun t217 => (if (wrap64 (t213 + t214)) = t215 then (if t213 < 0 then (lanternlaw09_PlanAdds.j1 kj8 l0 a1 t210 (mx (mx t210 t211) t212) t215 t217 true) else (if t214 < 0 then (lanternlaw09_PlanAdds.j1 kj8 l0 a1 t210 (mx (mx t210 t211) t212) t215 t217 true) else (if t210 < 1099511627776 then (if t216 = t217 then (if t217 < 0 then (lanternlaw09_PlanAdds.j1 kj8 l0 a1 t210 (mx (mx t210 t211) t212) t215 t217 true) else (lanternlaw09_PlanAdds.j1 kj8 l0 a1 t210 (mx (mx t210 t211) t212) t215 t217 (decide (t217 > 1000)))) else (lanternlaw09_PlanAdds.j1 kj8 l0 a1 t210 (mx (mx t210 t211) t212) t215 t217 true)) else (if t217 < 0 then (lanternlaw09_PlanAdds.j1 kj8 l0 a1 t210 (mx (mx t210 t211) t212) t215 t217 true) else (lanternlaw09_PlanAdds.j1 kj8 l0 a1 t210 (mx (mx t210 t211) t212) t215 t217 (decide (t217 > 1000))))))) else (lanternlaw09_PlanAdds.j1 kj8 l0 a1 t210 (mx (mx t210 t211) t212) t215 t217 true)))))))) = some r := H
        have A18 := Aside0.mk A180
        clear A180
        obtain ⟨ji19, hji19⟩ : ∃ j_ : Int, (mx t210 t211) = j_ := ⟨_, rfl⟩
        replace H : ((lanternlaw09_tick.f a4).bind fun t212 => ((plan_Total.f kj8 l0 a1 t210 (ji19)).bind fun t213 => ((plan_Total.f kj8 l0 a1 (ji19) (mx (ji19) t212)).bind fun t214 => ((plan_Total.f kj8 l0 a1 t210 (mx (ji19) t212)).bind fun t215 => ((plan_Total.f kj8 l0 a1 t210 (wrap64 (t210 + 1))).bind fun t216 => ((plan_Rate.f kj8 l0 a1 t210).bind fun t217 => (if (wrap64 (t213 + t214)) = t215 then (if t213 < 0 then (lanternlaw09_PlanAdds.j1 kj8 l0 a1 t210 (mx (ji19) t212) t215 t217 true) else (if t214 < 0 then (lanternlaw09_PlanAdds.j1 kj8 l0 a1 t210 (mx (ji19) t212) t215 t217 true) else (if t210 < 1099511627776 then (if t216 = t217 then (if t217 < 0 then (lanternlaw09_PlanAdds.j1 kj8 l0 a1 t210 (mx (ji19) t212) t215 t217 true) else (lanternlaw09_PlanAdds.j1 kj8 l0 a1 t210 (mx (ji19) t212) t215 t217 (decide (t217 > 1000)))) else (lanternlaw09_PlanAdds.j1 kj8 l0 a1 t210 (mx (ji19) t212) t215 t217 true)) else (if t217 < 0 then (lanternlaw09_PlanAdds.j1 kj8 l0 a1 t210 (mx (ji19) t212) t215 t217 true) else (lanternlaw09_PlanAdds.j1 kj8 l0 a1 t210 (mx (ji19) t212) t215 t217 (decide (t217 > 1000))))))) else (lanternlaw09_PlanAdds.j1 kj8 l0 a1 t210 (mx (ji19) t212) t215 t217 true)))))))) = some r := by first | (rw [hji19] at H; exact H) | (simp only [hji19] at H ⊢; exact H)
        (try rw [hji19] at A17)
        (try rw [hji19] at A18)
        have hji19_ : (if t210 < t211 then t211 else t210) = ji19 := hji19
        replace H := Option.bind_eq_some_iff.mp H
        obtain ⟨t212, A200, H⟩ := H
        replace H : ((plan_Total.f kj8 l0 a1 t210 (ji19)).bind fun t213 => ((plan_Total.f kj8 l0 a1 (ji19) (mx (ji19) t212)).bind fun t214 => ((plan_Total.f kj8 l0 a1 t210 (mx (ji19) t212)).bind fun t215 => ((plan_Total.f kj8 l0 a1 t210 (wrap64 (t210 + 1))).bind fun t216 => ((plan_Rate.f kj8 l0 a1 t210).bind fun t217 => (if (wrap64 (t213 + t214)) = t215 then (if t213 < 0 then (lanternlaw09_PlanAdds.j1 kj8 l0 a1 t210 (mx (ji19) t212) t215 t217 true) else (if t214 < 0 then (lanternlaw09_PlanAdds.j1 kj8 l0 a1 t210 (mx (ji19) t212) t215 t217 true) else (if t210 < 1099511627776 then (if t216 = t217 then (if t217 < 0 then (lanternlaw09_PlanAdds.j1 kj8 l0 a1 t210 (mx (ji19) t212) t215 t217 true) else (lanternlaw09_PlanAdds.j1 kj8 l0 a1 t210 (mx (ji19) t212) t215 t217 (decide (t217 > 1000)))) else (lanternlaw09_PlanAdds.j1 kj8 l0 a1 t210 (mx (ji19) t212) t215 t217 true)) else (if t217 < 0 then (lanternlaw09_PlanAdds.j1 kj8 l0 a1 t210 (mx (ji19) t212) t215 t217 true) else (lanternlaw09_PlanAdds.j1 kj8 l0 a1 t210 (mx (ji19) t212) t215 t217 (decide (t217 > 1000))))))) else (lanternlaw09_PlanAdds.j1 kj8 l0 a1 t210 (mx (ji19) t212) t215 t217 true))))))) = some r := H
        have A20 := Aside0.mk A200
        clear A200
        obtain ⟨ji21, hji21⟩ : ∃ j_ : Int, (mx (ji19) t212) = j_ := ⟨_, rfl⟩
        replace H : ((plan_Total.f kj8 l0 a1 t210 (ji19)).bind fun t213 => ((plan_Total.f kj8 l0 a1 (ji19) (ji21)).bind fun t214 => ((plan_Total.f kj8 l0 a1 t210 (ji21)).bind fun t215 => ((plan_Total.f kj8 l0 a1 t210 (wrap64 (t210 + 1))).bind fun t216 => ((plan_Rate.f kj8 l0 a1 t210).bind fun t217 => (if (wrap64 (t213 + t214)) = t215 then (if t213 < 0 then (lanternlaw09_PlanAdds.j1 kj8 l0 a1 t210 ji21 t215 t217 true) else (if t214 < 0 then (lanternlaw09_PlanAdds.j1 kj8 l0 a1 t210 ji21 t215 t217 true) else (if t210 < 1099511627776 then (if t216 = t217 then (if t217 < 0 then (lanternlaw09_PlanAdds.j1 kj8 l0 a1 t210 ji21 t215 t217 true) else (lanternlaw09_PlanAdds.j1 kj8 l0 a1 t210 ji21 t215 t217 (decide (t217 > 1000)))) else (lanternlaw09_PlanAdds.j1 kj8 l0 a1 t210 ji21 t215 t217 true)) else (if t217 < 0 then (lanternlaw09_PlanAdds.j1 kj8 l0 a1 t210 ji21 t215 t217 true) else (lanternlaw09_PlanAdds.j1 kj8 l0 a1 t210 ji21 t215 t217 (decide (t217 > 1000))))))) else (lanternlaw09_PlanAdds.j1 kj8 l0 a1 t210 ji21 t215 t217 true))))))) = some r := by first | (rw [hji21] at H; exact H) | (simp only [hji21] at H ⊢; exact H)
        (try rw [hji21] at A17)
        (try rw [hji21] at A18)
        (try rw [hji21] at A20)
        have hji21_ : (if (ji19) < t212 then t212 else (ji19)) = ji21 := hji21
        replace H := Option.bind_eq_some_iff.mp H
        obtain ⟨t213, A220, H⟩ := H
        replace H : ((plan_Total.f kj8 l0 a1 (ji19) (ji21)).bind fun t214 => ((plan_Total.f kj8 l0 a1 t210 (ji21)).bind fun t215 => ((plan_Total.f kj8 l0 a1 t210 (wrap64 (t210 + 1))).bind fun t216 => ((plan_Rate.f kj8 l0 a1 t210).bind fun t217 => (if (wrap64 (t213 + t214)) = t215 then (if t213 < 0 then (lanternlaw09_PlanAdds.j1 kj8 l0 a1 t210 ji21 t215 t217 true) else (if t214 < 0 then (lanternlaw09_PlanAdds.j1 kj8 l0 a1 t210 ji21 t215 t217 true) else (if t210 < 1099511627776 then (if t216 = t217 then (if t217 < 0 then (lanternlaw09_PlanAdds.j1 kj8 l0 a1 t210 ji21 t215 t217 true) else (lanternlaw09_PlanAdds.j1 kj8 l0 a1 t210 ji21 t215 t217 (decide (t217 > 1000)))) else (lanternlaw09_PlanAdds.j1 kj8 l0 a1 t210 ji21 t215 t217 true)) else (if t217 < 0 then (lanternlaw09_PlanAdds.j1 kj8 l0 a1 t210 ji21 t215 t217 true) else (lanternlaw09_PlanAdds.j1 kj8 l0 a1 t210 ji21 t215 t217 (decide (t217 > 1000))))))) else (lanternlaw09_PlanAdds.j1 kj8 l0 a1 t210 ji21 t215 t217 true)))))) = some r := H
        have A22 := Aside0.mk A220
        clear A220
        replace H := Option.bind_eq_some_iff.mp H
        obtain ⟨t214, A230, H⟩ := H
        replace H : ((plan_Total.f kj8 l0 a1 t210 (ji21)).bind fun t215 => ((plan_Total.f kj8 l0 a1 t210 (wrap64 (t210 + 1))).bind fun t216 => ((plan_Rate.f kj8 l0 a1 t210).bind fun t217 => (if (wrap64 (t213 + t214)) = t215 then (if t213 < 0 then (lanternlaw09_PlanAdds.j1 kj8 l0 a1 t210 ji21 t215 t217 true) else (if t214 < 0 then (lanternlaw09_PlanAdds.j1 kj8 l0 a1 t210 ji21 t215 t217 true) else (if t210 < 1099511627776 then (if t216 = t217 then (if t217 < 0 then (lanternlaw09_PlanAdds.j1 kj8 l0 a1 t210 ji21 t215 t217 true) else (lanternlaw09_PlanAdds.j1 kj8 l0 a1 t210 ji21 t215 t217 (decide (t217 > 1000)))) else (lanternlaw09_PlanAdds.j1 kj8 l0 a1 t210 ji21 t215 t217 true)) else (if t217 < 0 then (lanternlaw09_PlanAdds.j1 kj8 l0 a1 t210 ji21 t215 t217 true) else (lanternlaw09_PlanAdds.j1 kj8 l0 a1 t210 ji21 t215 t217 (decide (t217 > 1000))))))) else (lanternlaw09_PlanAdds.j1 kj8 l0 a1 t210 ji21 t215 t217 true))))) = some r := H
        have A23 := Aside0.mk A230
        clear A230
        replace H := Option.bind_eq_some_iff.mp H
        obtain ⟨t215, A240, H⟩ := H
        replace H : ((plan_Total.f kj8 l0 a1 t210 (wrap64 (t210 + 1))).bind fun t216 => ((plan_Rate.f kj8 l0 a1 t210).bind fun t217 => (if (wrap64 (t213 + t214)) = t215 then (if t213 < 0 then (lanternlaw09_PlanAdds.j1 kj8 l0 a1 t210 ji21 t215 t217 true) else (if t214 < 0 then (lanternlaw09_PlanAdds.j1 kj8 l0 a1 t210 ji21 t215 t217 true) else (if t210 < 1099511627776 then (if t216 = t217 then (if t217 < 0 then (lanternlaw09_PlanAdds.j1 kj8 l0 a1 t210 ji21 t215 t217 true) else (lanternlaw09_PlanAdds.j1 kj8 l0 a1 t210 ji21 t215 t217 (decide (t217 > 1000)))) else (lanternlaw09_PlanAdds.j1 kj8 l0 a1 t210 ji21 t215 t217 true)) else (if t217 < 0 then (lanternlaw09_PlanAdds.j1 kj8 l0 a1 t210 ji21 t215 t217 true) else (lanternlaw09_PlanAdds.j1 kj8 l0 a1 t210 ji21 t215 t217 (decide (t217 > 1000))))))) else (lanternlaw09_PlanAdds.j1 kj8 l0 a1 t210 ji21 t215 t217 true)))) = some r := H
        have A24 := Aside0.mk A240
        clear A240
        replace H := Option.bind_eq_some_iff.mp H
        obtain ⟨t216, A250, H⟩ := H
        replace H : ((plan_Rate.f kj8 l0 a1 t210).bind fun t217 => (if (wrap64 (t213 + t214)) = t215 then (if t213 < 0 then (lanternlaw09_PlanAdds.j1 kj8 l0 a1 t210 ji21 t215 t217 true) else (if t214 < 0 then (lanternlaw09_PlanAdds.j1 kj8 l0 a1 t210 ji21 t215 t217 true) else (if t210 < 1099511627776 then (if t216 = t217 then (if t217 < 0 then (lanternlaw09_PlanAdds.j1 kj8 l0 a1 t210 ji21 t215 t217 true) else (lanternlaw09_PlanAdds.j1 kj8 l0 a1 t210 ji21 t215 t217 (decide (t217 > 1000)))) else (lanternlaw09_PlanAdds.j1 kj8 l0 a1 t210 ji21 t215 t217 true)) else (if t217 < 0 then (lanternlaw09_PlanAdds.j1 kj8 l0 a1 t210 ji21 t215 t217 true) else (lanternlaw09_PlanAdds.j1 kj8 l0 a1 t210 ji21 t215 t217 (decide (t217 > 1000))))))) else (lanternlaw09_PlanAdds.j1 kj8 l0 a1 t210 ji21 t215 t217 true))) = some r := H
        have A25 := Aside0.mk A250
        clear A250
        replace H := Option.bind_eq_some_iff.mp H
        obtain ⟨t217, A260, H⟩ := H
        replace H : (if (wrap64 (t213 + t214)) = t215 then (if t213 < 0 then (lanternlaw09_PlanAdds.j1 kj8 l0 a1 t210 ji21 t215 t217 true) else (if t214 < 0 then (lanternlaw09_PlanAdds.j1 kj8 l0 a1 t210 ji21 t215 t217 true) else (if t210 < 1099511627776 then (if t216 = t217 then (if t217 < 0 then (lanternlaw09_PlanAdds.j1 kj8 l0 a1 t210 ji21 t215 t217 true) else (lanternlaw09_PlanAdds.j1 kj8 l0 a1 t210 ji21 t215 t217 (decide (t217 > 1000)))) else (lanternlaw09_PlanAdds.j1 kj8 l0 a1 t210 ji21 t215 t217 true)) else (if t217 < 0 then (lanternlaw09_PlanAdds.j1 kj8 l0 a1 t210 ji21 t215 t217 true) else (lanternlaw09_PlanAdds.j1 kj8 l0 a1 t210 ji21 t215 t217 (decide (t217 > 1000))))))) else (lanternlaw09_PlanAdds.j1 kj8 l0 a1 t210 ji21 t215 t217 true)) = some r := H
        have A26 := Aside0.mk A260
        clear A260
        have HC27 := Aside0.mk H
        clear H
        go_upto_region 14 with (first | ((with_reducible refine gate_callee (f := 10) rfl ?_); refine goesL_ (some 47) rfl rfl Try.func10 (by kernel_rfl) rfl #[.int .i64 a2] rfl (by (try simp only [List.map_toArray, List.map_cons, List.map_nil]); first | done | rfl | (simp only [List.length_drop, List.length_take]; rfl)) ?_; (with_reducible refine (lanternlaw09_tick.calls a2 t210 _ A17.out).mono ?_); rintro e w28 ⟨rfl, hb⟩; refine ⟨_, rfl, ?_⟩; have n0_ := Aside0.mk (below_step (by repeat (first | (with_reducible first | exact HB.out | apply below_alloc | apply pw_below_drewN | apply below_drew1) | exact HB.out)) hb); clear HB; have HB := n0_; clear n0_; (try clear hb); (try clear hb2); (try clear hk); (try clear hi)) | ((with_reducible refine gate_callee (f := 10) rfl ?_); refine goesL_ (some 50) rfl rfl Try.func10 (by kernel_rfl) rfl #[.int .i64 a3] rfl (by (try simp only [List.map_toArray, List.map_cons, List.map_nil]); first | done | rfl | (simp only [List.length_drop, List.length_take]; rfl)) ?_; (with_reducible refine (lanternlaw09_tick.calls a3 t211 _ A18.out).mono ?_); rintro e w29 ⟨rfl, hb⟩; refine ⟨_, rfl, ?_⟩; have n0_ := Aside0.mk (below_step (by repeat (first | (with_reducible first | exact HB.out | apply below_alloc | apply pw_below_drewN | apply below_drew1) | exact HB.out)) hb); clear HB; have HB := n0_; clear n0_; (try clear hb); (try clear hb2); (try clear hk); (try clear hi)) | ((with_reducible refine gate_callee (f := 10) rfl ?_); refine goesL_ (some 54) rfl rfl Try.func10 (by kernel_rfl) rfl #[.int .i64 a4] rfl (by (try simp only [List.map_toArray, List.map_cons, List.map_nil]); first | done | rfl | (simp only [List.length_drop, List.length_take]; rfl)) ?_; (with_reducible refine (lanternlaw09_tick.calls a4 t212 _ A20.out).mono ?_); rintro e w30 ⟨rfl, hb⟩; refine ⟨_, rfl, ?_⟩; have n0_ := Aside0.mk (below_step (by repeat (first | (with_reducible first | exact HB.out | apply below_alloc | apply pw_below_drewN | apply below_drew1) | exact HB.out)) hb); clear HB; have HB := n0_; clear n0_; (try clear hb); (try clear hb2); (try clear hk); (try clear hi)) | ((with_reducible refine gate_callee (f := 12) rfl ?_); refine goesL_ (some 60) rfl rfl Try.func12 (by kernel_rfl) rfl #[.slice A0 l0.length c0, .int .i64 a1, .int .i64 t210, .int .i64 ji19] rfl (by (try simp only [List.map_toArray, List.map_cons, List.map_nil]); first | done | (simp only [hji19]; rfl) | rfl | (simp only [List.length_drop, List.length_take]; rfl)) ?_; (with_reducible refine (plan_Total.calls kj8 _ _ l0 a1 t210 ji19 t213 _ ?side1 ?side2 A22.out).mono ?_); (case side1 => repeat (first | exact (Kd.C_below HR0.out HB.out) | (with_reducible refine Kd.C_alloc ?_ _) | (with_reducible refine Kd.C_drewN ?_ _) | (with_reducible refine Kd.C_drew ?_))); (case side2 => exact HC0.out); rintro e w31 ⟨rfl, hb⟩; refine ⟨_, rfl, ?_⟩; have n0_ := Aside0.mk (below_step (by repeat (first | (with_reducible first | exact HB.out | apply below_alloc | apply pw_below_drewN | apply below_drew1) | exact HB.out)) hb); clear HB; have HB := n0_; clear n0_; (try clear hb); (try clear hb2); (try clear hk); (try clear hi)) | ((with_reducible refine gate_callee (f := 12) rfl ?_); refine goesL_ (some 65) rfl rfl Try.func12 (by kernel_rfl) rfl #[.slice A0 l0.length c0, .int .i64 a1, .int .i64 ji19, .int .i64 ji21] rfl (by (try simp only [List.map_toArray, List.map_cons, List.map_nil]); first | done | (simp only [hji19, hji21]; rfl) | rfl | (simp only [List.length_drop, List.length_take]; rfl)) ?_; (with_reducible refine (plan_Total.calls kj8 _ _ l0 a1 ji19 ji21 t214 _ ?side1 ?side2 A23.out).mono ?_); (case side1 => repeat (first | exact (Kd.C_below HR0.out HB.out) | (with_reducible refine Kd.C_alloc ?_ _) | (with_reducible refine Kd.C_drewN ?_ _) | (with_reducible refine Kd.C_drew ?_))); (case side2 => exact HC0.out); rintro e w32 ⟨rfl, hb⟩; refine ⟨_, rfl, ?_⟩; have n0_ := Aside0.mk (below_step (by repeat (first | (with_reducible first | exact HB.out | apply below_alloc | apply pw_below_drewN | apply below_drew1) | exact HB.out)) hb); clear HB; have HB := n0_; clear n0_; (try clear hb); (try clear hb2); (try clear hk); (try clear hi)) | ((with_reducible refine gate_callee (f := 12) rfl ?_); refine goesL_ (some 70) rfl rfl Try.func12 (by kernel_rfl) rfl #[.slice A0 l0.length c0, .int .i64 a1, .int .i64 t210, .int .i64 ji21] rfl (by (try simp only [List.map_toArray, List.map_cons, List.map_nil]); first | done | (simp only [hji21]; rfl) | rfl | (simp only [List.length_drop, List.length_take]; rfl)) ?_; (with_reducible refine (plan_Total.calls kj8 _ _ l0 a1 t210 ji21 t215 _ ?side1 ?side2 A24.out).mono ?_); (case side1 => repeat (first | exact (Kd.C_below HR0.out HB.out) | (with_reducible refine Kd.C_alloc ?_ _) | (with_reducible refine Kd.C_drewN ?_ _) | (with_reducible refine Kd.C_drew ?_))); (case side2 => exact HC0.out); rintro e w33 ⟨rfl, hb⟩; refine ⟨_, rfl, ?_⟩; have n0_ := Aside0.mk (below_step (by repeat (first | (with_reducible first | exact HB.out | apply below_alloc | apply pw_below_drewN | apply below_drew1) | exact HB.out)) hb); clear HB; have HB := n0_; clear n0_; (try clear hb); (try clear hb2); (try clear hk); (try clear hi)) | ((with_reducible refine gate_callee (f := 12) rfl ?_); refine goesL_ (some 76) rfl rfl Try.func12 (by kernel_rfl) rfl #[.slice A0 l0.length c0, .int .i64 a1, .int .i64 t210, .int .i64 (wrap64 (t210 + 1))] rfl (by (try simp only [List.map_toArray, List.map_cons, List.map_nil]); first | done | rfl | (simp only [List.length_drop, List.length_take]; rfl)) ?_; (with_reducible refine (plan_Total.calls kj8 _ _ l0 a1 t210 (wrap64 (t210 + 1)) t216 _ ?side1 ?side2 A25.out).mono ?_); (case side1 => repeat (first | exact (Kd.C_below HR0.out HB.out) | (with_reducible refine Kd.C_alloc ?_ _) | (with_reducible refine Kd.C_drewN ?_ _) | (with_reducible refine Kd.C_drew ?_))); (case side2 => exact HC0.out); rintro e w34 ⟨rfl, hb⟩; refine ⟨_, rfl, ?_⟩; have n0_ := Aside0.mk (below_step (by repeat (first | (with_reducible first | exact HB.out | apply below_alloc | apply pw_below_drewN | apply below_drew1) | exact HB.out)) hb); clear HB; have HB := n0_; clear n0_; (try clear hb); (try clear hb2); (try clear hk); (try clear hi)) | ((with_reducible refine gate_callee (f := 13) rfl ?_); refine goesL_ (some 80) rfl rfl Try.func13 (by kernel_rfl) rfl #[.slice A0 l0.length c0, .int .i64 a1, .int .i64 t210] rfl (by (try simp only [List.map_toArray, List.map_cons, List.map_nil]); first | done | rfl | (simp only [List.length_drop, List.length_take]; rfl)) ?_; (with_reducible refine (plan_Rate.calls kj8 _ _ l0 a1 t210 t217 _ ?side1 ?side2 A26.out).mono ?_); (case side1 => repeat (first | exact (Kd.C_below HR0.out HB.out) | (with_reducible refine Kd.C_alloc ?_ _) | (with_reducible refine Kd.C_drewN ?_ _) | (with_reducible refine Kd.C_drew ?_))); (case side2 => exact HC0.out); rintro e w35 ⟨rfl, hb⟩; refine ⟨_, rfl, ?_⟩; have n0_ := Aside0.mk (below_step (by repeat (first | (with_reducible first | exact HB.out | apply below_alloc | apply pw_below_drewN | apply below_drew1) | exact HB.out)) hb); clear HB; have HB := n0_; clear n0_; (try clear hb); (try clear hb2); (try clear hk); (try clear hi)))
        (try simp only [Act.put, List.setIfInBounds_toArray, List.set_cons_zero, List.set_cons_succ])
        go_cut [110] (fun v110 wc => ∃ (kq : Nat) (x110_26 : Bool), v110 = .bool x110_26 ∧ Aside0 (lanternlaw09_PlanAdds.j1 kq l0 a1 t210 ji21 t215 t217 x110_26 = some r) ∧ Aside0 (kq ≤ kj8) ∧ Aside0 (Below w.heap.size w wc))
        case first =>
          have H := HC27.out
          clear HC27
          by_cases c36 : (wrap64 (t213 + t214)) = t215
          · rw [if_pos c36] at H
            have c36b0 : ((wrap64 (t213 + t214)) == t215) = true := beq_iff_eq.mpr c36
            have c36b1 : ((wrap64 (t213 + t214)) != t215) = false := bne_eq_false_iff_eq.mpr c36
            clear c36
            (first | rw [c36b0] | (simp only [i64_w, i32_w]; rw [c36b0]) | skip)
            by_cases c37 : t213 < 0
            · rw [if_pos c37] at H
              have c37b0 : decide (t213 < 0) = true := decide_eq_true c37
              clear c37
              have H' := Aside0.mk H
              clear H
              go_wp2
              go_meet
              case rel => exact ⟨_, (true), (by first | rfl | (simp; done) | (simp [*]; done)), H', ⟨by have := HJ8.out; first | omega | exact Nat.le_refl _⟩, ⟨by repeat (first | (with_reducible first | exact HB.out | apply below_alloc | apply pw_below_drewN | apply below_drew1) | exact HB.out)⟩⟩
            · rw [if_neg c37] at H
              have c37b0 : decide (t213 < 0) = false := decide_eq_false c37
              clear c37
              by_cases c38 : t214 < 0
              · rw [if_pos c38] at H
                have c38b0 : decide (t214 < 0) = true := decide_eq_true c38
                clear c38
                have H' := Aside0.mk H
                clear H
                go_wp2
                go_meet
                case rel => exact ⟨_, (true), (by first | rfl | (simp; done) | (simp [*]; done)), H', ⟨by have := HJ8.out; first | omega | exact Nat.le_refl _⟩, ⟨by repeat (first | (with_reducible first | exact HB.out | apply below_alloc | apply pw_below_drewN | apply below_drew1) | exact HB.out)⟩⟩
              · rw [if_neg c38] at H
                have c38b0 : decide (t214 < 0) = false := decide_eq_false c38
                clear c38
                by_cases c39 : t210 < 1099511627776
                · rw [if_pos c39] at H
                  have c39b0 : decide (t210 < 1099511627776) = true := decide_eq_true c39
                  clear c39
                  by_cases c40 : t216 = t217
                  · rw [if_pos c40] at H
                    have c40b0 : (t216 == t217) = true := beq_iff_eq.mpr c40
                    have c40b1 : (t216 != t217) = false := bne_eq_false_iff_eq.mpr c40
                    clear c40
                    by_cases c41 : t217 < 0
                    · rw [if_pos c41] at H
                      have c41b0 : decide (t217 < 0) = true := decide_eq_true c41
                      clear c41
                      have H' := Aside0.mk H
                      clear H
                      go_wp2
                      go_meet
                      case rel => exact ⟨_, (true), (by first | rfl | (simp; done) | (simp [*]; done)), H', ⟨by have := HJ8.out; first | omega | exact Nat.le_refl _⟩, ⟨by repeat (first | (with_reducible first | exact HB.out | apply below_alloc | apply pw_below_drewN | apply below_drew1) | exact HB.out)⟩⟩
                    · rw [if_neg c41] at H
                      have c41b0 : decide (t217 < 0) = false := decide_eq_false c41
                      clear c41
                      have H' := Aside0.mk H
                      clear H
                      go_wp2
                      go_meet
                      case rel => exact ⟨_, (decide (t217 > 1000)), (by first | rfl | (simp; done) | (simp [*]; done)), H', ⟨by have := HJ8.out; first | omega | exact Nat.le_refl _⟩, ⟨by repeat (first | (with_reducible first | exact HB.out | apply below_alloc | apply pw_below_drewN | apply below_drew1) | exact HB.out)⟩⟩
                  · rw [if_neg c40] at H
                    have c40b0 : (t216 == t217) = false := beq_eq_false_iff_ne.mpr c40
                    have c40b1 : (t216 != t217) = true := bne_iff_ne.mpr c40
                    have H' := Aside0.mk H
                    clear H
                    go_wp2
                    go_meet
                    case rel => exact ⟨_, (true), (by first | rfl | (simp; done) | (simp [*]; done)), H', ⟨by have := HJ8.out; first | omega | exact Nat.le_refl _⟩, ⟨by repeat (first | (with_reducible first | exact HB.out | apply below_alloc | apply pw_below_drewN | apply below_drew1) | exact HB.out)⟩⟩
                · rw [if_neg c39] at H
                  have c39b0 : decide (t210 < 1099511627776) = false := decide_eq_false c39
                  clear c39
                  by_cases c42 : t217 < 0
                  · rw [if_pos c42] at H
                    have c42b0 : decide (t217 < 0) = true := decide_eq_true c42
                    clear c42
                    have H' := Aside0.mk H
                    clear H
                    go_wp2
                    go_meet
                    case rel => exact ⟨_, (true), (by first | rfl | (simp; done) | (simp [*]; done)), H', ⟨by have := HJ8.out; first | omega | exact Nat.le_refl _⟩, ⟨by repeat (first | (with_reducible first | exact HB.out | apply below_alloc | apply pw_below_drewN | apply below_drew1) | exact HB.out)⟩⟩
                  · rw [if_neg c42] at H
                    have c42b0 : decide (t217 < 0) = false := decide_eq_false c42
                    clear c42
                    have H' := Aside0.mk H
                    clear H
                    go_wp2
                    go_meet
                    case rel => exact ⟨_, (decide (t217 > 1000)), (by first | rfl | (simp; done) | (simp [*]; done)), H', ⟨by have := HJ8.out; first | omega | exact Nat.le_refl _⟩, ⟨by repeat (first | (with_reducible first | exact HB.out | apply below_alloc | apply pw_below_drewN | apply below_drew1) | exact HB.out)⟩⟩
          · rw [if_neg c36] at H
            have c36b0 : ((wrap64 (t213 + t214)) == t215) = false := beq_eq_false_iff_ne.mpr c36
            have c36b1 : ((wrap64 (t213 + t214)) != t215) = true := bne_iff_ne.mpr c36
            (first | rw [c36b0] | (simp only [i64_w, i32_w]; rw [c36b0]) | skip)
            have H' := Aside0.mk H
            clear H
            go_wp2
            go_meet
            case rel => exact ⟨_, (true), (by first | rfl | (simp; done) | (simp [*]; done)), H', ⟨by have := HJ8.out; first | omega | exact Nat.le_refl _⟩, ⟨by repeat (first | (with_reducible first | exact HB.out | apply below_alloc | apply pw_below_drewN | apply below_drew1) | exact HB.out)⟩⟩
        case rest =>
          clear HC27
          try clear c1
          try clear p2
          try clear c3
          try clear c4
          try clear c5
          try clear p6
          try clear c7
          try clear c8
          try clear c9
          try clear c10
          try clear c12
          try clear c13
          try clear c14
          try clear c14b0
          try clear c14b1
          try clear c15
          try clear c16
          try clear c36
          try clear c36b0
          try clear c36b1
          try clear c37
          try clear c37b0
          try clear c38
          try clear c38b0
          try clear c39
          try clear c39b0
          try clear c40
          try clear c40b0
          try clear c40b1
          try clear c41
          try clear c41b0
          try clear c42
          try clear c42b0
          try clear p2
          obtain ⟨kq, x110_26, rfl, HA, HJ26, HB⟩ := hcut
          cases kq with
          | zero => exact absurd HA.out (by simp [lanternlaw09_PlanAdds.j1])
          | succ kj26 =>
            have H := HA.out
            clear HA
            simp only [lanternlaw09_PlanAdds.j1] at H
            by_cases c43 : x110_26 = true
            · subst c43
              have H1 : (some false) = some r := by rw [if_pos rfl] at H; exact H
              clear H
              have H := H1
              clear H1
              obtain rfl := Option.some.inj H
              go_wp2
              go_ret
              exact ⟨by first | rfl | (simp [errW_none, errW_some] <;> rfl) | (simp only [← hji19, ← hji21]; first | rfl | (simp [errW_none, errW_some] <;> rfl)) | (simp [*, errW_none, errW_some] <;> rfl), by repeat (first | (with_reducible first | exact HB.out | apply below_alloc | apply pw_below_drewN | apply below_drew1) | exact HB.out)⟩
            · replace c43 := Bool.eq_false_iff.mpr c43
              subst c43
              have H1 : ((plan_Next.f kj26 l0 a1 t210).bind fun t218 => (if t218 < 0 then ((plan_Rate.f kj26 l0 a1 ji21).bind fun t219 => (if t218 = (-1) then (if t219 = t217 then (some (t215 == (wrap64 (t217 * (wrap64 (ji21 - t210)))))) else (some false)) else (some false))) else ((plan_Rate.f kj26 l0 a1 (wrap64 (t218 - 1))).bind fun t220 => ((plan_Rate.f kj26 l0 a1 t218).bind fun t221 => ((plan_Total.f kj26 l0 a1 t210 t218).bind fun t222 => (if t218 > t210 then (if t218 ≤ 1099511627776 then (if t220 = t217 then (if t221 = t217 then (some false) else (some (t222 == (wrap64 (t217 * (wrap64 (t218 - t210))))))) else (some false)) else (some false)) else (some false))))))) = some r := by rw [if_neg (show ¬ (false = true) by decide)] at H; exact H
              clear H
              have H := H1
              clear H1
              replace H := Option.bind_eq_some_iff.mp H
              obtain ⟨t218, A440, H⟩ := H
              replace H : (if t218 < 0 then ((plan_Rate.f kj26 l0 a1 ji21).bind fun t219 => (if t218 = (-1) then (if t219 = t217 then (some (t215 == (wrap64 (t217 * (wrap64 (ji21 - t210)))))) else (some false)) else (some false))) else ((plan_Rate.f kj26 l0 a1 (wrap64 (t218 - 1))).bind fun t220 => ((plan_Rate.f kj26 l0 a1 t218).bind fun t221 => ((plan_Total.f kj26 l0 a1 t210 t218).bind fun t222 => (if t218 > t210 then (if t218 ≤ 1099511627776 then (if t220 = t217 then (if t221 = t217 then (some false) else (some (t222 == (wrap64 (t217 * (wrap64 (t218 - t210))))))) else (some false)) else (some false)) else (some false)))))) = some r := H
              have A44 := Aside0.mk A440
              clear A440
              by_cases c45 : t218 < 0
              · rw [if_pos c45] at H
                have c45b0 : decide (t218 < 0) = true := decide_eq_true c45
                clear c45
                replace H := Option.bind_eq_some_iff.mp H
                obtain ⟨t219, A460, H⟩ := H
                replace H : (if t218 = (-1) then (if t219 = t217 then (some (t215 == (wrap64 (t217 * (wrap64 (ji21 - t210)))))) else (some false)) else (some false)) = some r := H
                have A46 := Aside0.mk A460
                clear A460
                by_cases c47 : t218 = (-1)
                · rw [if_pos c47] at H
                  have c47b0 : (t218 == (-1)) = true := beq_iff_eq.mpr c47
                  have c47b1 : (t218 != (-1)) = false := bne_eq_false_iff_eq.mpr c47
                  clear c47
                  by_cases c48 : t219 = t217
                  · rw [if_pos c48] at H
                    have c48b0 : (t219 == t217) = true := beq_iff_eq.mpr c48
                    have c48b1 : (t219 != t217) = false := bne_eq_false_iff_eq.mpr c48
                    clear c48
                    obtain rfl := Option.some.inj H
                    go_wp2_with (first | ((with_reducible refine gate_callee (f := 17) rfl ?_); refine goesL_ (some 114) rfl rfl Try.func17 (by kernel_rfl) rfl #[.slice A0 l0.length c0, .int .i64 a1, .int .i64 t210] rfl (by (try simp only [List.map_toArray, List.map_cons, List.map_nil]); first | done | rfl | (simp only [List.length_drop, List.length_take]; rfl)) ?_; (with_reducible refine (plan_Next.calls kj26 _ _ l0 a1 t210 t218 _ ?side1 ?side2 A44.out).mono ?_); (case side1 => repeat (first | exact (Kd.C_below HR0.out HB.out) | (with_reducible refine Kd.C_alloc ?_ _) | (with_reducible refine Kd.C_drewN ?_ _) | (with_reducible refine Kd.C_drew ?_))); (case side2 => exact HC0.out); rintro e w49 ⟨rfl, hb⟩; refine ⟨_, rfl, ?_⟩; have n0_ := Aside0.mk (below_step (by repeat (first | (with_reducible first | exact HB.out | apply below_alloc | apply pw_below_drewN | apply below_drew1) | exact HB.out)) hb); clear HB; have HB := n0_; clear n0_; (try clear hb); (try clear hb2); (try clear hk); (try clear hi)) | ((with_reducible refine gate_callee (f := 13) rfl ?_); refine goesL_ (some 120) rfl rfl Try.func13 (by kernel_rfl) rfl #[.slice A0 l0.length c0, .int .i64 a1, .int .i64 ji21] rfl (by (try simp only [List.map_toArray, List.map_cons, List.map_nil]); first | done | (simp only [hji21]; rfl) | rfl | (simp only [List.length_drop, List.length_take]; rfl)) ?_; (with_reducible refine (plan_Rate.calls kj26 _ _ l0 a1 ji21 t219 _ ?side1 ?side2 A46.out).mono ?_); (case side1 => repeat (first | exact (Kd.C_below HR0.out HB.out) | (with_reducible refine Kd.C_alloc ?_ _) | (with_reducible refine Kd.C_drewN ?_ _) | (with_reducible refine Kd.C_drew ?_))); (case side2 => exact HC0.out); rintro e w50 ⟨rfl, hb⟩; refine ⟨_, rfl, ?_⟩; have n0_ := Aside0.mk (below_step (by repeat (first | (with_reducible first | exact HB.out | apply below_alloc | apply pw_below_drewN | apply below_drew1) | exact HB.out)) hb); clear HB; have HB := n0_; clear n0_; (try clear hb); (try clear hb2); (try clear hk); (try clear hi)))
                    go_ret
                    exact ⟨by first | rfl | (simp [errW_none, errW_some] <;> rfl) | (simp only [← hji19, ← hji21]; first | rfl | (simp [errW_none, errW_some] <;> rfl)) | (simp [*, errW_none, errW_some] <;> rfl), by repeat (first | (with_reducible first | exact HB.out | apply below_alloc | apply pw_below_drewN | apply below_drew1) | exact HB.out)⟩
                  · rw [if_neg c48] at H
                    have c48b0 : (t219 == t217) = false := beq_eq_false_iff_ne.mpr c48
                    have c48b1 : (t219 != t217) = true := bne_iff_ne.mpr c48
                    obtain rfl := Option.some.inj H
                    go_wp2_with (first | ((with_reducible refine gate_callee (f := 17) rfl ?_); refine goesL_ (some 114) rfl rfl Try.func17 (by kernel_rfl) rfl #[.slice A0 l0.length c0, .int .i64 a1, .int .i64 t210] rfl (by (try simp only [List.map_toArray, List.map_cons, List.map_nil]); first | done | rfl | (simp only [List.length_drop, List.length_take]; rfl)) ?_; (with_reducible refine (plan_Next.calls kj26 _ _ l0 a1 t210 t218 _ ?side1 ?side2 A44.out).mono ?_); (case side1 => repeat (first | exact (Kd.C_below HR0.out HB.out) | (with_reducible refine Kd.C_alloc ?_ _) | (with_reducible refine Kd.C_drewN ?_ _) | (with_reducible refine Kd.C_drew ?_))); (case side2 => exact HC0.out); rintro e w51 ⟨rfl, hb⟩; refine ⟨_, rfl, ?_⟩; have n0_ := Aside0.mk (below_step (by repeat (first | (with_reducible first | exact HB.out | apply below_alloc | apply pw_below_drewN | apply below_drew1) | exact HB.out)) hb); clear HB; have HB := n0_; clear n0_; (try clear hb); (try clear hb2); (try clear hk); (try clear hi)) | ((with_reducible refine gate_callee (f := 13) rfl ?_); refine goesL_ (some 120) rfl rfl Try.func13 (by kernel_rfl) rfl #[.slice A0 l0.length c0, .int .i64 a1, .int .i64 ji21] rfl (by (try simp only [List.map_toArray, List.map_cons, List.map_nil]); first | done | (simp only [hji21]; rfl) | rfl | (simp only [List.length_drop, List.length_take]; rfl)) ?_; (with_reducible refine (plan_Rate.calls kj26 _ _ l0 a1 ji21 t219 _ ?side1 ?side2 A46.out).mono ?_); (case side1 => repeat (first | exact (Kd.C_below HR0.out HB.out) | (with_reducible refine Kd.C_alloc ?_ _) | (with_reducible refine Kd.C_drewN ?_ _) | (with_reducible refine Kd.C_drew ?_))); (case side2 => exact HC0.out); rintro e w52 ⟨rfl, hb⟩; refine ⟨_, rfl, ?_⟩; have n0_ := Aside0.mk (below_step (by repeat (first | (with_reducible first | exact HB.out | apply below_alloc | apply pw_below_drewN | apply below_drew1) | exact HB.out)) hb); clear HB; have HB := n0_; clear n0_; (try clear hb); (try clear hb2); (try clear hk); (try clear hi)))
                    go_ret
                    exact ⟨by first | rfl | (simp [errW_none, errW_some] <;> rfl) | (simp only [← hji19, ← hji21]; first | rfl | (simp [errW_none, errW_some] <;> rfl)) | (simp [*, errW_none, errW_some] <;> rfl), by repeat (first | (with_reducible first | exact HB.out | apply below_alloc | apply pw_below_drewN | apply below_drew1) | exact HB.out)⟩
                · rw [if_neg c47] at H
                  have c47b0 : (t218 == (-1)) = false := beq_eq_false_iff_ne.mpr c47
                  have c47b1 : (t218 != (-1)) = true := bne_iff_ne.mpr c47
                  obtain rfl := Option.some.inj H
                  go_wp2_with (first | ((with_reducible refine gate_callee (f := 17) rfl ?_); refine goesL_ (some 114) rfl rfl Try.func17 (by kernel_rfl) rfl #[.slice A0 l0.length c0, .int .i64 a1, .int .i64 t210] rfl (by (try simp only [List.map_toArray, List.map_cons, List.map_nil]); first | done | rfl | (simp only [List.length_drop, List.length_take]; rfl)) ?_; (with_reducible refine (plan_Next.calls kj26 _ _ l0 a1 t210 t218 _ ?side1 ?side2 A44.out).mono ?_); (case side1 => repeat (first | exact (Kd.C_below HR0.out HB.out) | (with_reducible refine Kd.C_alloc ?_ _) | (with_reducible refine Kd.C_drewN ?_ _) | (with_reducible refine Kd.C_drew ?_))); (case side2 => exact HC0.out); rintro e w53 ⟨rfl, hb⟩; refine ⟨_, rfl, ?_⟩; have n0_ := Aside0.mk (below_step (by repeat (first | (with_reducible first | exact HB.out | apply below_alloc | apply pw_below_drewN | apply below_drew1) | exact HB.out)) hb); clear HB; have HB := n0_; clear n0_; (try clear hb); (try clear hb2); (try clear hk); (try clear hi)) | ((with_reducible refine gate_callee (f := 13) rfl ?_); refine goesL_ (some 120) rfl rfl Try.func13 (by kernel_rfl) rfl #[.slice A0 l0.length c0, .int .i64 a1, .int .i64 ji21] rfl (by (try simp only [List.map_toArray, List.map_cons, List.map_nil]); first | done | (simp only [hji21]; rfl) | rfl | (simp only [List.length_drop, List.length_take]; rfl)) ?_; (with_reducible refine (plan_Rate.calls kj26 _ _ l0 a1 ji21 t219 _ ?side1 ?side2 A46.out).mono ?_); (case side1 => repeat (first | exact (Kd.C_below HR0.out HB.out) | (with_reducible refine Kd.C_alloc ?_ _) | (with_reducible refine Kd.C_drewN ?_ _) | (with_reducible refine Kd.C_drew ?_))); (case side2 => exact HC0.out); rintro e w54 ⟨rfl, hb⟩; refine ⟨_, rfl, ?_⟩; have n0_ := Aside0.mk (below_step (by repeat (first | (with_reducible first | exact HB.out | apply below_alloc | apply pw_below_drewN | apply below_drew1) | exact HB.out)) hb); clear HB; have HB := n0_; clear n0_; (try clear hb); (try clear hb2); (try clear hk); (try clear hi)))
                  go_ret
                  exact ⟨by first | rfl | (simp [errW_none, errW_some] <;> rfl) | (simp only [← hji19, ← hji21]; first | rfl | (simp [errW_none, errW_some] <;> rfl)) | (simp [*, errW_none, errW_some] <;> rfl), by repeat (first | (with_reducible first | exact HB.out | apply below_alloc | apply pw_below_drewN | apply below_drew1) | exact HB.out)⟩
              · rw [if_neg c45] at H
                have c45b0 : decide (t218 < 0) = false := decide_eq_false c45
                clear c45
                replace H := Option.bind_eq_some_iff.mp H
                obtain ⟨t220, A550, H⟩ := H
                replace H : ((plan_Rate.f kj26 l0 a1 t218).bind fun t221 => ((plan_Total.f kj26 l0 a1 t210 t218).bind fun t222 => (if t218 > t210 then (if t218 ≤ 1099511627776 then (if t220 = t217 then (if t221 = t217 then (some false) else (some (t222 == (wrap64 (t217 * (wrap64 (t218 - t210))))))) else (some false)) else (some false)) else (some false)))) = some r := H
                have A55 := Aside0.mk A550
                clear A550
                replace H := Option.bind_eq_some_iff.mp H
                obtain ⟨t221, A560, H⟩ := H
                replace H : ((plan_Total.f kj26 l0 a1 t210 t218).bind fun t222 => (if t218 > t210 then (if t218 ≤ 1099511627776 then (if t220 = t217 then (if t221 = t217 then (some false) else (some (t222 == (wrap64 (t217 * (wrap64 (t218 - t210))))))) else (some false)) else (some false)) else (some false))) = some r := H
                have A56 := Aside0.mk A560
                clear A560
                replace H := Option.bind_eq_some_iff.mp H
                obtain ⟨t222, A570, H⟩ := H
                replace H : (if t218 > t210 then (if t218 ≤ 1099511627776 then (if t220 = t217 then (if t221 = t217 then (some false) else (some (t222 == (wrap64 (t217 * (wrap64 (t218 - t210))))))) else (some false)) else (some false)) else (some false)) = some r := H
                have A57 := Aside0.mk A570
                clear A570
                by_cases c58 : t218 > t210
                · rw [if_pos c58] at H
                  have c58b0 : decide (t210 < t218) = true := decide_eq_true c58
                  clear c58
                  by_cases c59 : t218 ≤ 1099511627776
                  · rw [if_pos c59] at H
                    have c59b0 : decide (t218 ≤ 1099511627776) = true := decide_eq_true c59
                    clear c59
                    by_cases c60 : t220 = t217
                    · rw [if_pos c60] at H
                      have c60b0 : (t220 == t217) = true := beq_iff_eq.mpr c60
                      have c60b1 : (t220 != t217) = false := bne_eq_false_iff_eq.mpr c60
                      clear c60
                      by_cases c61 : t221 = t217
                      · rw [if_pos c61] at H
                        have c61b0 : (t221 == t217) = true := beq_iff_eq.mpr c61
                        have c61b1 : (t221 != t217) = false := bne_eq_false_iff_eq.mpr c61
                        clear c61
                        obtain rfl := Option.some.inj H
                        go_wp2_with (first | ((with_reducible refine gate_callee (f := 17) rfl ?_); refine goesL_ (some 114) rfl rfl Try.func17 (by kernel_rfl) rfl #[.slice A0 l0.length c0, .int .i64 a1, .int .i64 t210] rfl (by (try simp only [List.map_toArray, List.map_cons, List.map_nil]); first | done | rfl | (simp only [List.length_drop, List.length_take]; rfl)) ?_; (with_reducible refine (plan_Next.calls kj26 _ _ l0 a1 t210 t218 _ ?side1 ?side2 A44.out).mono ?_); (case side1 => repeat (first | exact (Kd.C_below HR0.out HB.out) | (with_reducible refine Kd.C_alloc ?_ _) | (with_reducible refine Kd.C_drewN ?_ _) | (with_reducible refine Kd.C_drew ?_))); (case side2 => exact HC0.out); rintro e w62 ⟨rfl, hb⟩; refine ⟨_, rfl, ?_⟩; have n0_ := Aside0.mk (below_step (by repeat (first | (with_reducible first | exact HB.out | apply below_alloc | apply pw_below_drewN | apply below_drew1) | exact HB.out)) hb); clear HB; have HB := n0_; clear n0_; (try clear hb); (try clear hb2); (try clear hk); (try clear hi)) | ((with_reducible refine gate_callee (f := 13) rfl ?_); refine goesL_ (some 141) rfl rfl Try.func13 (by kernel_rfl) rfl #[.slice A0 l0.length c0, .int .i64 a1, .int .i64 (wrap64 (t218 - 1))] rfl (by (try simp only [List.map_toArray, List.map_cons, List.map_nil]); first | done | rfl | (simp only [List.length_drop, List.length_take]; rfl)) ?_; (with_reducible refine (plan_Rate.calls kj26 _ _ l0 a1 (wrap64 (t218 - 1)) t220 _ ?side1 ?side2 A55.out).mono ?_); (case side1 => repeat (first | exact (Kd.C_below HR0.out HB.out) | (with_reducible refine Kd.C_alloc ?_ _) | (with_reducible refine Kd.C_drewN ?_ _) | (with_reducible refine Kd.C_drew ?_))); (case side2 => exact HC0.out); rintro e w63 ⟨rfl, hb⟩; refine ⟨_, rfl, ?_⟩; have n0_ := Aside0.mk (below_step (by repeat (first | (with_reducible first | exact HB.out | apply below_alloc | apply pw_below_drewN | apply below_drew1) | exact HB.out)) hb); clear HB; have HB := n0_; clear n0_; (try clear hb); (try clear hb2); (try clear hk); (try clear hi)) | ((with_reducible refine gate_callee (f := 13) rfl ?_); refine goesL_ (some 145) rfl rfl Try.func13 (by kernel_rfl) rfl #[.slice A0 l0.length c0, .int .i64 a1, .int .i64 t218] rfl (by (try simp only [List.map_toArray, List.map_cons, List.map_nil]); first | done | rfl | (simp only [List.length_drop, List.length_take]; rfl)) ?_; (with_reducible refine (plan_Rate.calls kj26 _ _ l0 a1 t218 t221 _ ?side1 ?side2 A56.out).mono ?_); (case side1 => repeat (first | exact (Kd.C_below HR0.out HB.out) | (with_reducible refine Kd.C_alloc ?_ _) | (with_reducible refine Kd.C_drewN ?_ _) | (with_reducible refine Kd.C_drew ?_))); (case side2 => exact HC0.out); rintro e w64 ⟨rfl, hb⟩; refine ⟨_, rfl, ?_⟩; have n0_ := Aside0.mk (below_step (by repeat (first | (with_reducible first | exact HB.out | apply below_alloc | apply pw_below_drewN | apply below_drew1) | exact HB.out)) hb); clear HB; have HB := n0_; clear n0_; (try clear hb); (try clear hb2); (try clear hk); (try clear hi)) | ((with_reducible refine gate_callee (f := 12) rfl ?_); refine goesL_ (some 150) rfl rfl Try.func12 (by kernel_rfl) rfl #[.slice A0 l0.length c0, .int .i64 a1, .int .i64 t210, .int .i64 t218] rfl (by (try simp only [List.map_toArray, List.map_cons, List.map_nil]); first | done | rfl | (simp only [List.length_drop, List.length_take]; rfl)) ?_; (with_reducible refine (plan_Total.calls kj26 _ _ l0 a1 t210 t218 t222 _ ?side1 ?side2 A57.out).mono ?_); (case side1 => repeat (first | exact (Kd.C_below HR0.out HB.out) | (with_reducible refine Kd.C_alloc ?_ _) | (with_reducible refine Kd.C_drewN ?_ _) | (with_reducible refine Kd.C_drew ?_))); (case side2 => exact HC0.out); rintro e w65 ⟨rfl, hb⟩; refine ⟨_, rfl, ?_⟩; have n0_ := Aside0.mk (below_step (by repeat (first | (with_reducible first | exact HB.out | apply below_alloc | apply pw_below_drewN | apply below_drew1) | exact HB.out)) hb); clear HB; have HB := n0_; clear n0_; (try clear hb); (try clear hb2); (try clear hk); (try clear hi)))
                        go_ret
                        exact ⟨by first | rfl | (simp [errW_none, errW_some] <;> rfl) | (simp only [← hji19, ← hji21]; first | rfl | (simp [errW_none, errW_some] <;> rfl)) | (simp [*, errW_none, errW_some] <;> rfl), by repeat (first | (with_reducible first | exact HB.out | apply below_alloc | apply pw_below_drewN | apply below_drew1) | exact HB.out)⟩
                      · rw [if_neg c61] at H
                        have c61b0 : (t221 == t217) = false := beq_eq_false_iff_ne.mpr c61
                        have c61b1 : (t221 != t217) = true := bne_iff_ne.mpr c61
                        obtain rfl := Option.some.inj H
                        go_wp2_with (first | ((with_reducible refine gate_callee (f := 17) rfl ?_); refine goesL_ (some 114) rfl rfl Try.func17 (by kernel_rfl) rfl #[.slice A0 l0.length c0, .int .i64 a1, .int .i64 t210] rfl (by (try simp only [List.map_toArray, List.map_cons, List.map_nil]); first | done | rfl | (simp only [List.length_drop, List.length_take]; rfl)) ?_; (with_reducible refine (plan_Next.calls kj26 _ _ l0 a1 t210 t218 _ ?side1 ?side2 A44.out).mono ?_); (case side1 => repeat (first | exact (Kd.C_below HR0.out HB.out) | (with_reducible refine Kd.C_alloc ?_ _) | (with_reducible refine Kd.C_drewN ?_ _) | (with_reducible refine Kd.C_drew ?_))); (case side2 => exact HC0.out); rintro e w66 ⟨rfl, hb⟩; refine ⟨_, rfl, ?_⟩; have n0_ := Aside0.mk (below_step (by repeat (first | (with_reducible first | exact HB.out | apply below_alloc | apply pw_below_drewN | apply below_drew1) | exact HB.out)) hb); clear HB; have HB := n0_; clear n0_; (try clear hb); (try clear hb2); (try clear hk); (try clear hi)) | ((with_reducible refine gate_callee (f := 13) rfl ?_); refine goesL_ (some 141) rfl rfl Try.func13 (by kernel_rfl) rfl #[.slice A0 l0.length c0, .int .i64 a1, .int .i64 (wrap64 (t218 - 1))] rfl (by (try simp only [List.map_toArray, List.map_cons, List.map_nil]); first | done | rfl | (simp only [List.length_drop, List.length_take]; rfl)) ?_; (with_reducible refine (plan_Rate.calls kj26 _ _ l0 a1 (wrap64 (t218 - 1)) t220 _ ?side1 ?side2 A55.out).mono ?_); (case side1 => repeat (first | exact (Kd.C_below HR0.out HB.out) | (with_reducible refine Kd.C_alloc ?_ _) | (with_reducible refine Kd.C_drewN ?_ _) | (with_reducible refine Kd.C_drew ?_))); (case side2 => exact HC0.out); rintro e w67 ⟨rfl, hb⟩; refine ⟨_, rfl, ?_⟩; have n0_ := Aside0.mk (below_step (by repeat (first | (with_reducible first | exact HB.out | apply below_alloc | apply pw_below_drewN | apply below_drew1) | exact HB.out)) hb); clear HB; have HB := n0_; clear n0_; (try clear hb); (try clear hb2); (try clear hk); (try clear hi)) | ((with_reducible refine gate_callee (f := 13) rfl ?_); refine goesL_ (some 145) rfl rfl Try.func13 (by kernel_rfl) rfl #[.slice A0 l0.length c0, .int .i64 a1, .int .i64 t218] rfl (by (try simp only [List.map_toArray, List.map_cons, List.map_nil]); first | done | rfl | (simp only [List.length_drop, List.length_take]; rfl)) ?_; (with_reducible refine (plan_Rate.calls kj26 _ _ l0 a1 t218 t221 _ ?side1 ?side2 A56.out).mono ?_); (case side1 => repeat (first | exact (Kd.C_below HR0.out HB.out) | (with_reducible refine Kd.C_alloc ?_ _) | (with_reducible refine Kd.C_drewN ?_ _) | (with_reducible refine Kd.C_drew ?_))); (case side2 => exact HC0.out); rintro e w68 ⟨rfl, hb⟩; refine ⟨_, rfl, ?_⟩; have n0_ := Aside0.mk (below_step (by repeat (first | (with_reducible first | exact HB.out | apply below_alloc | apply pw_below_drewN | apply below_drew1) | exact HB.out)) hb); clear HB; have HB := n0_; clear n0_; (try clear hb); (try clear hb2); (try clear hk); (try clear hi)) | ((with_reducible refine gate_callee (f := 12) rfl ?_); refine goesL_ (some 150) rfl rfl Try.func12 (by kernel_rfl) rfl #[.slice A0 l0.length c0, .int .i64 a1, .int .i64 t210, .int .i64 t218] rfl (by (try simp only [List.map_toArray, List.map_cons, List.map_nil]); first | done | rfl | (simp only [List.length_drop, List.length_take]; rfl)) ?_; (with_reducible refine (plan_Total.calls kj26 _ _ l0 a1 t210 t218 t222 _ ?side1 ?side2 A57.out).mono ?_); (case side1 => repeat (first | exact (Kd.C_below HR0.out HB.out) | (with_reducible refine Kd.C_alloc ?_ _) | (with_reducible refine Kd.C_drewN ?_ _) | (with_reducible refine Kd.C_drew ?_))); (case side2 => exact HC0.out); rintro e w69 ⟨rfl, hb⟩; refine ⟨_, rfl, ?_⟩; have n0_ := Aside0.mk (below_step (by repeat (first | (with_reducible first | exact HB.out | apply below_alloc | apply pw_below_drewN | apply below_drew1) | exact HB.out)) hb); clear HB; have HB := n0_; clear n0_; (try clear hb); (try clear hb2); (try clear hk); (try clear hi)))
                        go_ret
                        exact ⟨by first | rfl | (simp [errW_none, errW_some] <;> rfl) | (simp only [← hji19, ← hji21]; first | rfl | (simp [errW_none, errW_some] <;> rfl)) | (simp [*, errW_none, errW_some] <;> rfl), by repeat (first | (with_reducible first | exact HB.out | apply below_alloc | apply pw_below_drewN | apply below_drew1) | exact HB.out)⟩
                    · rw [if_neg c60] at H
                      have c60b0 : (t220 == t217) = false := beq_eq_false_iff_ne.mpr c60
                      have c60b1 : (t220 != t217) = true := bne_iff_ne.mpr c60
                      obtain rfl := Option.some.inj H
                      go_wp2_with (first | ((with_reducible refine gate_callee (f := 17) rfl ?_); refine goesL_ (some 114) rfl rfl Try.func17 (by kernel_rfl) rfl #[.slice A0 l0.length c0, .int .i64 a1, .int .i64 t210] rfl (by (try simp only [List.map_toArray, List.map_cons, List.map_nil]); first | done | rfl | (simp only [List.length_drop, List.length_take]; rfl)) ?_; (with_reducible refine (plan_Next.calls kj26 _ _ l0 a1 t210 t218 _ ?side1 ?side2 A44.out).mono ?_); (case side1 => repeat (first | exact (Kd.C_below HR0.out HB.out) | (with_reducible refine Kd.C_alloc ?_ _) | (with_reducible refine Kd.C_drewN ?_ _) | (with_reducible refine Kd.C_drew ?_))); (case side2 => exact HC0.out); rintro e w70 ⟨rfl, hb⟩; refine ⟨_, rfl, ?_⟩; have n0_ := Aside0.mk (below_step (by repeat (first | (with_reducible first | exact HB.out | apply below_alloc | apply pw_below_drewN | apply below_drew1) | exact HB.out)) hb); clear HB; have HB := n0_; clear n0_; (try clear hb); (try clear hb2); (try clear hk); (try clear hi)) | ((with_reducible refine gate_callee (f := 13) rfl ?_); refine goesL_ (some 141) rfl rfl Try.func13 (by kernel_rfl) rfl #[.slice A0 l0.length c0, .int .i64 a1, .int .i64 (wrap64 (t218 - 1))] rfl (by (try simp only [List.map_toArray, List.map_cons, List.map_nil]); first | done | rfl | (simp only [List.length_drop, List.length_take]; rfl)) ?_; (with_reducible refine (plan_Rate.calls kj26 _ _ l0 a1 (wrap64 (t218 - 1)) t220 _ ?side1 ?side2 A55.out).mono ?_); (case side1 => repeat (first | exact (Kd.C_below HR0.out HB.out) | (with_reducible refine Kd.C_alloc ?_ _) | (with_reducible refine Kd.C_drewN ?_ _) | (with_reducible refine Kd.C_drew ?_))); (case side2 => exact HC0.out); rintro e w71 ⟨rfl, hb⟩; refine ⟨_, rfl, ?_⟩; have n0_ := Aside0.mk (below_step (by repeat (first | (with_reducible first | exact HB.out | apply below_alloc | apply pw_below_drewN | apply below_drew1) | exact HB.out)) hb); clear HB; have HB := n0_; clear n0_; (try clear hb); (try clear hb2); (try clear hk); (try clear hi)) | ((with_reducible refine gate_callee (f := 13) rfl ?_); refine goesL_ (some 145) rfl rfl Try.func13 (by kernel_rfl) rfl #[.slice A0 l0.length c0, .int .i64 a1, .int .i64 t218] rfl (by (try simp only [List.map_toArray, List.map_cons, List.map_nil]); first | done | rfl | (simp only [List.length_drop, List.length_take]; rfl)) ?_; (with_reducible refine (plan_Rate.calls kj26 _ _ l0 a1 t218 t221 _ ?side1 ?side2 A56.out).mono ?_); (case side1 => repeat (first | exact (Kd.C_below HR0.out HB.out) | (with_reducible refine Kd.C_alloc ?_ _) | (with_reducible refine Kd.C_drewN ?_ _) | (with_reducible refine Kd.C_drew ?_))); (case side2 => exact HC0.out); rintro e w72 ⟨rfl, hb⟩; refine ⟨_, rfl, ?_⟩; have n0_ := Aside0.mk (below_step (by repeat (first | (with_reducible first | exact HB.out | apply below_alloc | apply pw_below_drewN | apply below_drew1) | exact HB.out)) hb); clear HB; have HB := n0_; clear n0_; (try clear hb); (try clear hb2); (try clear hk); (try clear hi)) | ((with_reducible refine gate_callee (f := 12) rfl ?_); refine goesL_ (some 150) rfl rfl Try.func12 (by kernel_rfl) rfl #[.slice A0 l0.length c0, .int .i64 a1, .int .i64 t210, .int .i64 t218] rfl (by (try simp only [List.map_toArray, List.map_cons, List.map_nil]); first | done | rfl | (simp only [List.length_drop, List.length_take]; rfl)) ?_; (with_reducible refine (plan_Total.calls kj26 _ _ l0 a1 t210 t218 t222 _ ?side1 ?side2 A57.out).mono ?_); (case side1 => repeat (first | exact (Kd.C_below HR0.out HB.out) | (with_reducible refine Kd.C_alloc ?_ _) | (with_reducible refine Kd.C_drewN ?_ _) | (with_reducible refine Kd.C_drew ?_))); (case side2 => exact HC0.out); rintro e w73 ⟨rfl, hb⟩; refine ⟨_, rfl, ?_⟩; have n0_ := Aside0.mk (below_step (by repeat (first | (with_reducible first | exact HB.out | apply below_alloc | apply pw_below_drewN | apply below_drew1) | exact HB.out)) hb); clear HB; have HB := n0_; clear n0_; (try clear hb); (try clear hb2); (try clear hk); (try clear hi)))
                      go_ret
                      exact ⟨by first | rfl | (simp [errW_none, errW_some] <;> rfl) | (simp only [← hji19, ← hji21]; first | rfl | (simp [errW_none, errW_some] <;> rfl)) | (simp [*, errW_none, errW_some] <;> rfl), by repeat (first | (with_reducible first | exact HB.out | apply below_alloc | apply pw_below_drewN | apply below_drew1) | exact HB.out)⟩
                  · rw [if_neg c59] at H
                    have c59b0 : decide (t218 ≤ 1099511627776) = false := decide_eq_false c59
                    clear c59
                    obtain rfl := Option.some.inj H
                    go_wp2_with (first | ((with_reducible refine gate_callee (f := 17) rfl ?_); refine goesL_ (some 114) rfl rfl Try.func17 (by kernel_rfl) rfl #[.slice A0 l0.length c0, .int .i64 a1, .int .i64 t210] rfl (by (try simp only [List.map_toArray, List.map_cons, List.map_nil]); first | done | rfl | (simp only [List.length_drop, List.length_take]; rfl)) ?_; (with_reducible refine (plan_Next.calls kj26 _ _ l0 a1 t210 t218 _ ?side1 ?side2 A44.out).mono ?_); (case side1 => repeat (first | exact (Kd.C_below HR0.out HB.out) | (with_reducible refine Kd.C_alloc ?_ _) | (with_reducible refine Kd.C_drewN ?_ _) | (with_reducible refine Kd.C_drew ?_))); (case side2 => exact HC0.out); rintro e w74 ⟨rfl, hb⟩; refine ⟨_, rfl, ?_⟩; have n0_ := Aside0.mk (below_step (by repeat (first | (with_reducible first | exact HB.out | apply below_alloc | apply pw_below_drewN | apply below_drew1) | exact HB.out)) hb); clear HB; have HB := n0_; clear n0_; (try clear hb); (try clear hb2); (try clear hk); (try clear hi)) | ((with_reducible refine gate_callee (f := 13) rfl ?_); refine goesL_ (some 141) rfl rfl Try.func13 (by kernel_rfl) rfl #[.slice A0 l0.length c0, .int .i64 a1, .int .i64 (wrap64 (t218 - 1))] rfl (by (try simp only [List.map_toArray, List.map_cons, List.map_nil]); first | done | rfl | (simp only [List.length_drop, List.length_take]; rfl)) ?_; (with_reducible refine (plan_Rate.calls kj26 _ _ l0 a1 (wrap64 (t218 - 1)) t220 _ ?side1 ?side2 A55.out).mono ?_); (case side1 => repeat (first | exact (Kd.C_below HR0.out HB.out) | (with_reducible refine Kd.C_alloc ?_ _) | (with_reducible refine Kd.C_drewN ?_ _) | (with_reducible refine Kd.C_drew ?_))); (case side2 => exact HC0.out); rintro e w75 ⟨rfl, hb⟩; refine ⟨_, rfl, ?_⟩; have n0_ := Aside0.mk (below_step (by repeat (first | (with_reducible first | exact HB.out | apply below_alloc | apply pw_below_drewN | apply below_drew1) | exact HB.out)) hb); clear HB; have HB := n0_; clear n0_; (try clear hb); (try clear hb2); (try clear hk); (try clear hi)) | ((with_reducible refine gate_callee (f := 13) rfl ?_); refine goesL_ (some 145) rfl rfl Try.func13 (by kernel_rfl) rfl #[.slice A0 l0.length c0, .int .i64 a1, .int .i64 t218] rfl (by (try simp only [List.map_toArray, List.map_cons, List.map_nil]); first | done | rfl | (simp only [List.length_drop, List.length_take]; rfl)) ?_; (with_reducible refine (plan_Rate.calls kj26 _ _ l0 a1 t218 t221 _ ?side1 ?side2 A56.out).mono ?_); (case side1 => repeat (first | exact (Kd.C_below HR0.out HB.out) | (with_reducible refine Kd.C_alloc ?_ _) | (with_reducible refine Kd.C_drewN ?_ _) | (with_reducible refine Kd.C_drew ?_))); (case side2 => exact HC0.out); rintro e w76 ⟨rfl, hb⟩; refine ⟨_, rfl, ?_⟩; have n0_ := Aside0.mk (below_step (by repeat (first | (with_reducible first | exact HB.out | apply below_alloc | apply pw_below_drewN | apply below_drew1) | exact HB.out)) hb); clear HB; have HB := n0_; clear n0_; (try clear hb); (try clear hb2); (try clear hk); (try clear hi)) | ((with_reducible refine gate_callee (f := 12) rfl ?_); refine goesL_ (some 150) rfl rfl Try.func12 (by kernel_rfl) rfl #[.slice A0 l0.length c0, .int .i64 a1, .int .i64 t210, .int .i64 t218] rfl (by (try simp only [List.map_toArray, List.map_cons, List.map_nil]); first | done | rfl | (simp only [List.length_drop, List.length_take]; rfl)) ?_; (with_reducible refine (plan_Total.calls kj26 _ _ l0 a1 t210 t218 t222 _ ?side1 ?side2 A57.out).mono ?_); (case side1 => repeat (first | exact (Kd.C_below HR0.out HB.out) | (with_reducible refine Kd.C_alloc ?_ _) | (with_reducible refine Kd.C_drewN ?_ _) | (with_reducible refine Kd.C_drew ?_))); (case side2 => exact HC0.out); rintro e w77 ⟨rfl, hb⟩; refine ⟨_, rfl, ?_⟩; have n0_ := Aside0.mk (below_step (by repeat (first | (with_reducible first | exact HB.out | apply below_alloc | apply pw_below_drewN | apply below_drew1) | exact HB.out)) hb); clear HB; have HB := n0_; clear n0_; (try clear hb); (try clear hb2); (try clear hk); (try clear hi)))
                    go_ret
                    exact ⟨by first | rfl | (simp [errW_none, errW_some] <;> rfl) | (simp only [← hji19, ← hji21]; first | rfl | (simp [errW_none, errW_some] <;> rfl)) | (simp [*, errW_none, errW_some] <;> rfl), by repeat (first | (with_reducible first | exact HB.out | apply below_alloc | apply pw_below_drewN | apply below_drew1) | exact HB.out)⟩
                · rw [if_neg c58] at H
                  have c58b0 : decide (t210 < t218) = false := decide_eq_false c58
                  clear c58
                  obtain rfl := Option.some.inj H
                  go_wp2_with (first | ((with_reducible refine gate_callee (f := 17) rfl ?_); refine goesL_ (some 114) rfl rfl Try.func17 (by kernel_rfl) rfl #[.slice A0 l0.length c0, .int .i64 a1, .int .i64 t210] rfl (by (try simp only [List.map_toArray, List.map_cons, List.map_nil]); first | done | rfl | (simp only [List.length_drop, List.length_take]; rfl)) ?_; (with_reducible refine (plan_Next.calls kj26 _ _ l0 a1 t210 t218 _ ?side1 ?side2 A44.out).mono ?_); (case side1 => repeat (first | exact (Kd.C_below HR0.out HB.out) | (with_reducible refine Kd.C_alloc ?_ _) | (with_reducible refine Kd.C_drewN ?_ _) | (with_reducible refine Kd.C_drew ?_))); (case side2 => exact HC0.out); rintro e w78 ⟨rfl, hb⟩; refine ⟨_, rfl, ?_⟩; have n0_ := Aside0.mk (below_step (by repeat (first | (with_reducible first | exact HB.out | apply below_alloc | apply pw_below_drewN | apply below_drew1) | exact HB.out)) hb); clear HB; have HB := n0_; clear n0_; (try clear hb); (try clear hb2); (try clear hk); (try clear hi)) | ((with_reducible refine gate_callee (f := 13) rfl ?_); refine goesL_ (some 141) rfl rfl Try.func13 (by kernel_rfl) rfl #[.slice A0 l0.length c0, .int .i64 a1, .int .i64 (wrap64 (t218 - 1))] rfl (by (try simp only [List.map_toArray, List.map_cons, List.map_nil]); first | done | rfl | (simp only [List.length_drop, List.length_take]; rfl)) ?_; (with_reducible refine (plan_Rate.calls kj26 _ _ l0 a1 (wrap64 (t218 - 1)) t220 _ ?side1 ?side2 A55.out).mono ?_); (case side1 => repeat (first | exact (Kd.C_below HR0.out HB.out) | (with_reducible refine Kd.C_alloc ?_ _) | (with_reducible refine Kd.C_drewN ?_ _) | (with_reducible refine Kd.C_drew ?_))); (case side2 => exact HC0.out); rintro e w79 ⟨rfl, hb⟩; refine ⟨_, rfl, ?_⟩; have n0_ := Aside0.mk (below_step (by repeat (first | (with_reducible first | exact HB.out | apply below_alloc | apply pw_below_drewN | apply below_drew1) | exact HB.out)) hb); clear HB; have HB := n0_; clear n0_; (try clear hb); (try clear hb2); (try clear hk); (try clear hi)) | ((with_reducible refine gate_callee (f := 13) rfl ?_); refine goesL_ (some 145) rfl rfl Try.func13 (by kernel_rfl) rfl #[.slice A0 l0.length c0, .int .i64 a1, .int .i64 t218] rfl (by (try simp only [List.map_toArray, List.map_cons, List.map_nil]); first | done | rfl | (simp only [List.length_drop, List.length_take]; rfl)) ?_; (with_reducible refine (plan_Rate.calls kj26 _ _ l0 a1 t218 t221 _ ?side1 ?side2 A56.out).mono ?_); (case side1 => repeat (first | exact (Kd.C_below HR0.out HB.out) | (with_reducible refine Kd.C_alloc ?_ _) | (with_reducible refine Kd.C_drewN ?_ _) | (with_reducible refine Kd.C_drew ?_))); (case side2 => exact HC0.out); rintro e w80 ⟨rfl, hb⟩; refine ⟨_, rfl, ?_⟩; have n0_ := Aside0.mk (below_step (by repeat (first | (with_reducible first | exact HB.out | apply below_alloc | apply pw_below_drewN | apply below_drew1) | exact HB.out)) hb); clear HB; have HB := n0_; clear n0_; (try clear hb); (try clear hb2); (try clear hk); (try clear hi)) | ((with_reducible refine gate_callee (f := 12) rfl ?_); refine goesL_ (some 150) rfl rfl Try.func12 (by kernel_rfl) rfl #[.slice A0 l0.length c0, .int .i64 a1, .int .i64 t210, .int .i64 t218] rfl (by (try simp only [List.map_toArray, List.map_cons, List.map_nil]); first | done | rfl | (simp only [List.length_drop, List.length_take]; rfl)) ?_; (with_reducible refine (plan_Total.calls kj26 _ _ l0 a1 t210 t218 t222 _ ?side1 ?side2 A57.out).mono ?_); (case side1 => repeat (first | exact (Kd.C_below HR0.out HB.out) | (with_reducible refine Kd.C_alloc ?_ _) | (with_reducible refine Kd.C_drewN ?_ _) | (with_reducible refine Kd.C_drew ?_))); (case side2 => exact HC0.out); rintro e w81 ⟨rfl, hb⟩; refine ⟨_, rfl, ?_⟩; have n0_ := Aside0.mk (below_step (by repeat (first | (with_reducible first | exact HB.out | apply below_alloc | apply pw_below_drewN | apply below_drew1) | exact HB.out)) hb); clear HB; have HB := n0_; clear n0_; (try clear hb); (try clear hb2); (try clear hk); (try clear hi)))
                  go_ret
                  exact ⟨by first | rfl | (simp [errW_none, errW_some] <;> rfl) | (simp only [← hji19, ← hji21]; first | rfl | (simp [errW_none, errW_some] <;> rfl)) | (simp [*, errW_none, errW_some] <;> rfl), by repeat (first | (with_reducible first | exact HB.out | apply below_alloc | apply pw_below_drewN | apply below_drew1) | exact HB.out)⟩

-- NOT PRINTED: function 6 (lanternlaw09_PlanOrder)

end Go.Proofs.Ytogekdbbgpaelaa.PAll
