/- The walk of the law PlanSays: whatever comes in, true; nothing that was there has changed. -/
import Derived.Test.YtogekdbbgpaelaaPlanSays
import Derived.Test.YtogekdbbgpaelaaOpen
import Derived.OpenShut
namespace Go.Proofs.Ytogekdbbgpaelaa.PAll
open Go.RowKit Go.Proofs.Ytogekdbbgpaelaa.PlanFuns Go.Proofs.YtogekdbbgpaelaaW.PrintWords Go.Proofs.YtogekdbbgpaelaaW.PrintLast Go.Proofs.YtogekdbbgpaelaaW.PrintMore
set_option linter.unusedVariables false
set_option linter.unusedSimpArgs false
theorem R34_at {W : World} {base g n cap : Nat} {ok : Nat → Prop} {xs : List S34} (h : Kd.R k34 34 W base ok (.slice (some ⟨g, 0, none⟩) n cap) xs) (i : Nat) (h1 : i < n) :
    W.cell? ⟨g, i * 4 + 1, none⟩ = some (.int .i64 (rd_T34 xs i).f1) ∧ W.frozen? ⟨g, i * 4 + 1, none⟩ = false ∧ W.cell? ⟨g, i * 4 + 3, none⟩ = some (.int .i64 (rd_T34 xs i).f3) ∧ W.frozen? ⟨g, i * 4 + 3, none⟩ = false := by
  obtain ⟨c, hc, hM, hcell, hfr⟩ := Kd.R_elem h z34 (i : Int) (by omega) (by omega)
  obtain rfl := k34_openM hM
  exact ⟨hcell 1 _ rfl, hfr 1, hcell 3 _ rfl, hfr 3⟩
theorem R34_put {W : World} {base g n cap : Nat} {ok : Nat → Prop} {xs : List S34} (h : Kd.R k34 34 W base ok (.slice (some ⟨g, 0, none⟩) n cap) xs) (i : Nat) (h1 : i < n) (a b : Int) :
    Kd.R k34 34 ((W.setCell ⟨g, i * 4 + 1, none⟩ (.int .i64 a)).setCell ⟨g, i * 4 + 3, none⟩ (.int .i64 b)) base ok (.slice (some ⟨g, 0, none⟩) n cap) (xs.set i ⟨(rd_T34 xs i).f0, a, (rd_T34 xs i).f2, b⟩) := by
  have hn := (Kd.R_reads' h).1
  obtain ⟨c, hc, hM, hcell, hfr⟩ := Kd.R_elem h z34 (i : Int) (by omega) (by omega)
  obtain rfl := k34_openM hM
  have s1 := (Kd.R_seg h (i : Int) (by omega) (by omega) (seg := [.int .i64 a]) (j := 1) (x' := ⟨(rd_T34 xs i).f0, a, (rd_T34 xs i).f2, (rd_T34 xs i).f3⟩) hc hcell (show 1 + 1 ≤ 4 by decide) (k34_mkM W base (fun k => ok k ∧ k ≠ g) _) (fun k hk => hk)).1
  obtain ⟨c2, hc2, hM2, hcell2, hfr2⟩ := Kd.R_elem s1 z34 (i : Int) (by omega) (by omega)
  have e : (xs.set (i : Int).toNat ⟨(rd_T34 xs i).f0, a, (rd_T34 xs i).f2, (rd_T34 xs i).f3⟩).getD (i : Int).toNat z34 = ⟨(rd_T34 xs i).f0, a, (rd_T34 xs i).f2, (rd_T34 xs i).f3⟩ := by
    simp [List.getD_eq_getElem?_getD, List.getElem?_set, show i < xs.length by omega]
  rw [e] at hM2
  obtain rfl := k34_openM hM2
  have s2 := (Kd.R_seg s1 (i : Int) (by omega) (by omega) (seg := [.int .i64 b]) (j := 3) (x' := ⟨(rd_T34 xs i).f0, a, (rd_T34 xs i).f2, b⟩) hc2 hcell2 (show 3 + 1 ≤ 4 by decide) (k34_mkM _ base (fun k => ok k ∧ k ≠ g) _) (fun k hk => hk)).1
  rw [List.set_set] at s2
  exact s2
set_option maxHeartbeats 8000000 in
set_option maxRecDepth 100000 in
theorem PlanSays_walk (w : World) (A0 : Option Addr) (c0 : Nat) (l0 : List S34) (hr0 : Kd.C k34 w A0 l0.length l0) (hc0 : l0.length ≤ c0) (hz : l0.length * 32 ≤ 140737488351232) (a1 : Int) (_ : (Lit.int .i64 a1).wf = true) (a2 : Int) (_ : (Lit.int .i64 a2).wf = true) (a3 : Int) (_ : (Lit.int .i64 a3).wf = true) (a4 : Int) (h4 : (Lit.int .i64 a4).wf = true) :
    Calls Try.prog 4 #[.slice A0 l0.length c0, .int .i64 a1, .int .i64 a2, .int .i64 a3, .int .i64 a4] w fun e w' => e = .returned (.bool true) ∧ Below w.heap.size w w' := by
  have hm := (bounds_i64 h4).2
  clear h4
  have hw8 : (l0 ++ marks).length ≤ 140737488355328 := by simp [marks]; omega
  obtain ⟨k, K1, K2, K3⟩ := Ev.all3 awake_ev (says_ev l0 a1 a2 a3 a4 hm) (same_ev (l0 ++ marks) hw8)
  obtain ⟨k', K4, K5, K6⟩ := Ev.all3 (says_ev (later l0 l0.length) a1 a2 a3 a4 hm) (same_ev (later l0 l0.length) (by rw [later_length]; omega)) awake_ev
  have HL := Lent_f l0 hz
  have hmt : (l0 ++ marks).take l0.length = l0 := List.take_left
  have hml : (l0 ++ marks).length = l0.length + 2 := by simp [marks]
  generalize l0 ++ marks = m at *
  replace K1 := Aside0.mk K1
  replace K2 := Aside0.mk K2
  replace K3 := Aside0.mk K3
  replace K4 := Aside0.mk K4
  replace K5 := Aside0.mk K5
  replace HL := Aside0.mk HL
  replace hml := Aside0.mk hml
  replace hmt := Aside0.mk hmt
  clear K6
  have HR0 := Aside0.mk hr0
  have hlen : l0.length ≤ 4398046510976 := by omega
  clear hr0 hm hz hw8
  have HB := Aside0.mk (Below.refl w.heap.size w)
  go_enter Try.func4, Try.ntmps4
  go_wp2_with (first
    | (go_at_call 7; (with_reducible refine (lanternlaw09_awake.calls k true _ K1.out).mono ?_); rintro e w7 ⟨rfl, hb⟩; have HB7 := Aside0.mk (below_step (by repeat (first | (with_reducible first | exact HB.out | apply below_alloc | apply pw_below_drewN | apply below_drew1 | apply below_drew) | exact HB.out)) hb); clear HB; have HB := HB7; clear HB7; clear hb)
    | fail)
  refine (lanternlaw09_Lent.calls A0 c0 l0 m _ ?s1 hc0 HL.out).mono ?_
  case s1 => repeat (first | exact HR0.out | exact (Kd.C_below HR0.out HB.out) | (with_reducible refine Kd.C_alloc ?_ _) | (with_reducible refine Kd.C_drewN ?_ _) | (with_reducible refine Kd.C_drew ?_))
  rintro e w1 ⟨v0, rfl, hR, hb⟩
  obtain ⟨g, cap, rfl, hg1, hg2, _⟩ := Kd.R_form hR (by have := hml.out; omega)
  replace hR := Kd.R_lower hR HB.out.size
  have hnc := (Kd.R_reads' hR).2.1
  have hT := Kd.R_take hR (m := l0.length) (by have := hml.out; omega)
  rw [hmt.out] at hT
  have HB7 := Aside0.mk (below_step (by repeat (first | (with_reducible first | exact HB.out | apply below_alloc | apply pw_below_drewN | apply below_drew1 | apply below_drew) | exact HB.out)) hb); clear HB; have HB := HB7; clear HB7
  replace hR := Aside0.mk hR
  replace hT := Aside0.mk hT
  have hnc2 : l0.length ≤ cap := by have := hml.out; omega
  have hgw : w.heap.size ≤ g := Kd.R_base hR.out g (by simp [Value.ownBlock])
  clear hb hg1 hg2
  go_wp2_with fail
  refine (lanternlaw09_says.calls k _ cap l0 A0 c0 l0 a1 a2 a3 a4 true _ (Kd.R_reads' hT.out).2.2 hnc2 ?s2 hc0 K2.out).mono ?_
  case s2 => repeat (first | exact HR0.out | exact (Kd.C_below HR0.out HB.out) | (with_reducible refine Kd.C_alloc ?_ _) | (with_reducible refine Kd.C_drewN ?_ _) | (with_reducible refine Kd.C_drew ?_))
  rintro e w2 ⟨rfl, hb⟩
  have HB7 := Aside0.mk (below_step (by repeat (first | (with_reducible first | exact HB.out | apply below_alloc | apply pw_below_drewN | apply below_drew1 | apply below_drew) | exact HB.out)) hb); clear HB; have HB := HB7; clear HB7
  replace hR := Aside0.mk (Kd.R_below hR.out hb)
  replace hT := Aside0.mk (Kd.R_below hT.out hb)
  clear hb
  go_wp2_with fail
  refine (lanternlaw09_Lent.calls A0 c0 l0 m _ ?s1 hc0 HL.out).mono ?_
  case s1 => repeat (first | exact HR0.out | exact (Kd.C_below HR0.out HB.out) | (with_reducible refine Kd.C_alloc ?_ _) | (with_reducible refine Kd.C_drewN ?_ _) | (with_reducible refine Kd.C_drew ?_))
  rintro e w3 ⟨v2, rfl, hR2, hb⟩
  obtain ⟨A2, c2, rfl, hc2, hC2⟩ := Kd.R_reads hR2
  have HB7 := Aside0.mk (below_step (by repeat (first | (with_reducible first | exact HB.out | apply below_alloc | apply pw_below_drewN | apply below_drew1 | apply below_drew) | exact HB.out)) hb); clear HB; have HB := HB7; clear HB7
  replace hR := Aside0.mk (Kd.R_below hR.out hb)
  replace hT := Aside0.mk (Kd.R_below hT.out hb)
  replace hC2 := Aside0.mk hC2
  clear hb hR2
  go_wp2_with fail
  refine (lanternlaw09_same.calls k _ cap m A2 c2 m true _ (Kd.R_reads' hR.out).2.2 hnc hC2.out hc2 K3.out).mono ?_
  rintro e w4 ⟨rfl, hd⟩
  have hb := hd.below
  have HB7 := Aside0.mk (below_step (by repeat (first | (with_reducible first | exact HB.out | apply below_alloc | apply pw_below_drewN | apply below_drew1 | apply below_drew) | exact HB.out)) hb); clear HB; have HB := HB7; clear HB7
  replace hT := Aside0.mk (Kd.R_below hT.out hb)
  clear hb hd hR hC2
  go_wp2_with fail
  go_loopw [16] (fun v16 w' => ∃ i : Nat, i ≤ l0.length ∧ v16 = .int .i64 i ∧ Aside0 (Kd.R k34 34 w' w.heap.size (fun _ => True) (.slice (some ⟨g, 0, none⟩) l0.length cap) (later l0 i)) ∧ Aside0 (Below w.heap.size w w')) (fun v16 _ => l0.length - (intOf v16).toNat)
  case atStart => exact ⟨0, Nat.zero_le _, rfl, hT, HB⟩
  case round =>
    clear hT
    obtain ⟨i, hi, rfl, hT, HB⟩ := hrel
    by_cases h : i < l0.length
    · obtain ⟨p1, p2, p3, p4⟩ := R34_at hT.out i h
      have hq := R34_put hT.out i h (wrap64 ((rd_T34 (later l0 i) (i : Int)).f1 + 1)) (1 + (i : Int) % 7)
      replace hq := Aside0.mk hq
      go_wp2
      go_roundw
      case rel => exact ⟨i + 1, by omega, by go_num, ⟨hq.out⟩, ⟨(HB.out.setCell hgw _).setCell hgw _⟩⟩
      case measure => simp [intOf]; omega
    · obtain rfl : i = l0.length := by omega
      have hll := later_length l0 l0.length
      generalize later l0 l0.length = y at *
      rw [← hll] at hT
      have hyl := Aside0.mk hll
      clear hll h hi
      go_wp2_with (first | ((with_reducible refine gate_builtin (b := .append) (xs := #[.tmp 59, .tmp 60]) rfl ?_); at_builtin; refine Kd.R_append_rows k34 (w0 := w) w.heap.size rfl (.tmp 59) (.tmp 60) 22 34 (.agg #[(.int .i64 0), (.int .i64 0), (.int .i64 0), (.int .i64 0)]) 32 rfl Try.underlying22 info34 rfl (by decide) (by omega) (.slice none 0 0) [] y _ _ _ (fun k_ => k_ ≠ g) (fun _ => False) rfl rfl ?aO ?aR (fun _ _ h => h) (fun _ h => h.elim) ?aF ?aB ?aS ?aL ?_; (case aR => rw [← hyl.out]; exact (Kd.R_reads' hT.out).2.2); (case aB => exact HB.out); (case aF => exact (fun k_ hk => by have := Kd.R_lt hT.out g (by simp [Value.ownBlock]); omega)); (case aO => exact Kd.R_nil _ _ _ _ _); (case aS => exact HB.out.size); (case aL => simp only [List.length_nil]; omega); intro v9 w9 ho hb hg hat; have hT9 := Aside0.mk (Kd.R_grown hT.out hg (by intro k_ _; simp [Value.ownBlock])); clear hT HB; have hT := hT9; have HB := Aside0.mk hb; clear hT9 hb hat; have HO := Aside0.mk ho; clear ho hg; obtain ⟨A9, c9, rfl, hc9, hC9⟩ := Kd.R_reads HO.out; have HC9 := Aside0.mk hC9; clear hC9) | fail)
      have call1 : ∀ n, n = y.length → Calls Try.prog 15 #[.slice (some ⟨g, 0, none⟩) n cap, .slice A9 y.length c9, .int .i64 a1, .int .i64 a2, .int .i64 a3, .int .i64 a4] w9 fun e w' => e = .returned (.bool true) ∧ Below w9.heap.size w9 w' := by
        rintro n rfl
        exact lanternlaw09_says.calls k' _ cap y A9 c9 y a1 a2 a3 a4 true w9 (Kd.R_reads' hT.out).2.2 (by rw [hyl.out]; exact hnc2) HC9.out hc9 K4.out
      refine (call1 _ hyl.out.symm).mono ?_
      clear call1
      rintro e w10 ⟨rfl, hb⟩
      have HB7 := Aside0.mk (below_step (by repeat (first | (with_reducible first | exact HB.out | apply below_alloc | apply pw_below_drewN | apply below_drew1 | apply below_drew) | exact HB.out)) hb); clear HB; have HB := HB7; clear HB7
      replace hT := Aside0.mk (Kd.R_below hT.out hb)
      replace HC9 := Aside0.mk (Kd.C_below HC9.out hb)
      clear hb HO
      go_wp2_with fail
      have call2 : ∀ n, n = y.length → Calls Try.prog 16 #[.slice (some ⟨g, 0, none⟩) n cap, .slice A9 y.length c9] w10 fun e w' => e = .returned (.bool true) ∧ Drawn0 w10 w' := by
        rintro n rfl
        exact lanternlaw09_same.calls k' _ cap y A9 c9 y true w10 (Kd.R_reads' hT.out).2.2 (by rw [hyl.out]; exact hnc2) HC9.out hc9 K5.out
      refine (call2 _ hyl.out.symm).mono ?_
      clear call2
      rintro e w11 ⟨rfl, hd⟩
      have hb := hd.below
      have HB7 := Aside0.mk (below_step (by repeat (first | (with_reducible first | exact HB.out | apply below_alloc | apply pw_below_drewN | apply below_drew1 | apply below_drew) | exact HB.out)) hb); clear HB; have HB := HB7; clear HB7
      clear hb hd hT HC9
      go_wp2
      go_ret
      exact ⟨rfl, HB.out⟩
end Go.Proofs.Ytogekdbbgpaelaa.PAll
