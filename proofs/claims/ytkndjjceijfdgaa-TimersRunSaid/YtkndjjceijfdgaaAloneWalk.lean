/- The law TimersAlone: its walk. -/
import Derived.Test.YtkndjjceijfdgaaSame
namespace Go.Proofs.Ytkndjjceijfdgaa.PAll
open Go.RowKit Go.Proofs.YtkndjjceijfdgaaW.PrintWords Go.Proofs.YtkndjjceijfdgaaW.PrintLast Go.Proofs.YtkndjjceijfdgaaW.PrintMore Go.Proofs.YtkndjjceijfdgaaM
set_option linter.unusedVariables false
set_option linter.unusedSimpArgs false
theorem cells85 {w : World} {ad : Addr} {n : Nat} {xs : List S85} {k : Nat} {q : S85} (h : Kd.C k85 w (some ad) n xs) (hq : xs[k]? = some q) : w.cell? (ad.add (k * 6)) = some (.int .i64 q.f0.f0) ∧ w.cell? ⟨(ad.add (k * 6)).block, (ad.add (k * 6)).off + 1, none⟩ = some (.int .i64 q.f0.f1.f0) ∧ w.cell? ⟨(ad.add (k * 6)).block, (ad.add (k * 6)).off + 2, none⟩ = some (.int .i64 q.f0.f1.f1) ∧ w.cell? ⟨(ad.add (k * 6)).block, (ad.add (k * 6)).off + 3, none⟩ = some (.int .i64 q.f0.f2) ∧ w.cell? ⟨(ad.add (k * 6)).block, (ad.add (k * 6)).off + 4, none⟩ = some (.int .i64 q.f0.f3) ∧ w.cell? ⟨(ad.add (k * 6)).block, (ad.add (k * 6)).off + 5, none⟩ = some (.int .i64 q.f1) := by
  have hk : k < n := by have := (List.getElem?_eq_some_iff.1 hq).1; have := h.1; omega
  obtain ⟨ad', q', e, hq', g⟩ := at85 h k hk
  cases e
  rw [hq] at hq'
  cases hq'
  exact g
theorem some85 {w : World} {A : Option Addr} {n : Nat} {xs : List S85} {k : Nat} (h : Kd.C k85 w A n xs) (hk : k < n) : ∃ ad q, A = some ad ∧ xs[k]? = some q := by
  obtain ⟨ad, q, e, hq, _⟩ := at85 h k hk
  exact ⟨ad, q, e, hq⟩
theorem some36 {w : World} {A : Option Addr} {n : Nat} {xs : List S36} {k : Nat} (h : Kd.C k36 w A n xs) (hk : k < n) : ∃ ad q, A = some ad ∧ xs[k]? = some q := by
  obtain ⟨ad, e, g⟩ := at_T36 h (k : Int) (by omega) (by omega)
  have hl := h.1
  exact ⟨ad, xs[k], e, List.getElem?_eq_getElem (by omega)⟩
theorem kcells36 {w : World} {ad : Addr} {n : Nat} {xs : List S36} {k : Nat} {q : S36} (h : Kd.C k36 w (some ad) n xs) (hq : xs[k]? = some q) : w.cell? (ad.add (k * 5)) = some (.int .i64 q.f0) ∧ w.cell? ⟨(ad.add (k * 5)).block, (ad.add (k * 5)).off + 1, none⟩ = some (.int .i64 q.f1.f0) ∧ w.cell? ⟨(ad.add (k * 5)).block, (ad.add (k * 5)).off + 2, none⟩ = some (.int .i64 q.f1.f1) ∧ w.cell? ⟨(ad.add (k * 5)).block, (ad.add (k * 5)).off + 3, none⟩ = some (.int .i64 q.f2) ∧ w.cell? ⟨(ad.add (k * 5)).block, (ad.add (k * 5)).off + 4, none⟩ = some (.int .i64 q.f3) := by
  have hl := h.1
  have hk : k < n := by have := (List.getElem?_eq_some_iff.1 hq).1; omega
  obtain ⟨ad', e, g⟩ := at_T36 h (k : Int) (by omega) (by omega)
  cases e
  rw [Int.toNat_natCast] at g
  have : rd_T36 xs k = q := by
    unfold rd_T36
    rw [Int.toNat_natCast, List.getD_eq_getElem?_getD, hq]; rfl
  rw [this] at g
  exact g
theorem kept_block {W W' : World} {b j : Nat} {o : Obj} (hg : W.grownBy W' (some b)) (h : W.heap[j]? = some o) (hne : j ≠ b) : W'.heap[j]? = some o := (hg.block j (Array.getElem?_eq_some_iff.1 h).1 (by simpa using hne)).trans h
set_option maxRecDepth 100000 in
set_option maxHeartbeats 8000000 in
theorem TimersAlone_walk (w : World) (A0 : Option Addr) (c0 : Nat) (l0 : List S85) (x0 : Kd.C k85 w A0 l0.length l0) (h0 : l0.length ≤ c0) (y0 : l0.length * 48 ≤ 140737488351232) (g0 : ∀ q ∈ l0, WK q.f0 ∧ W64 q.f1)
    (A1 : Option Addr) (c1 : Nat) (l1 : List S85) (x1 : Kd.C k85 w A1 l1.length l1) (h1 : l1.length ≤ c1) (y1 : l1.length * 48 ≤ 140737488351232) (g1 : ∀ q ∈ l1, WK q.f0 ∧ W64 q.f1) (t : Int) (ht : W64 t) :
    Calls Try.prog 5 #[.slice A0 l0.length c0, .slice A1 l1.length c1, .int .i64 t] w fun e w' => e = .returned (.bool true) ∧ Below w.heap.size w w' := by
  have X0 := Aside0.mk x0
  have X1 := Aside0.mk x1
  have G0 := Aside0.mk g0
  have G1 := Aside0.mk g1
  have HT := Aside0.mk ht
  clear x0 x1 g0 g1 ht
  go_enter Try.func5, Try.ntmps5
  go_wp2_with (go_at_call 7; refine (awake_any _).mono ?_; rintro e w1 ⟨rfl, hb⟩; have B1 := Aside0.mk hb; clear hb)
  go_wp2_with (go_at_call 9; refine (new_any _).mono ?_; rintro e w2 ⟨ba, bla, bha, rfl, hT, hb, e1, e2, e3⟩; have B2 := Aside0.mk (B1.out.trans (hb.mono B1.out.size)); have SA := Aside0.mk (show St w ba bla bha [] [] w2 from ⟨hT, Nat.le_trans B1.out.size e1, Nat.le_trans B1.out.size e2, Nat.le_trans B1.out.size e3⟩); have LA := Aside0.mk hT.lt; clear hT hb e1 e2 e3)
  go_wp2_with (go_at_call 9; refine (new_any _).mono ?_; rintro e w3 ⟨bb, blb, bhb, rfl, hT, hb, e1, e2, e3⟩; have ST := Aside0.mk (show Two w ba bla bha bb blb bhb [] [] w3 from ⟨SA.out.below hb, ⟨hT, Nat.le_trans B2.out.size e1, Nat.le_trans B2.out.size e2, Nat.le_trans B2.out.size e3⟩, by have := LA.out; omega, by have := LA.out; omega, B2.out.trans (hb.mono B2.out.size)⟩); clear hT hb e1 e2 e3)
  have HJ0 : Aside0 (AJ w ba bla bha bb blb bhb w3.heap.size [] [] (w3.alloc (.cells #[.int .i64 9, .int .i64 9] 34)) ∧ Own mine [] []) := Aside0.mk ⟨⟨ST.out.below (below_alloc (Below.refl _ _) _), heap_alloc_new w3 _, ST.out.2.2.2.2.size, by have := ST.out.1.1.lt; omega, by have := ST.out.2.1.1.lt; omega, (fun p hp => by cases hp), (fun p hp => by cases hp)⟩, List.Perm.refl _⟩
  clear ST SA LA B1 B2
  go_loopw [11] (fun i wr => ∃ (k : Nat) (Ta Tb : List (S36 × Int)), k ≤ l0.length ∧ i = .int .i64 k ∧ Aside0 (AJ w ba bla bha bb blb bhb w3.heap.size Ta Tb wr ∧ Own mine Ta Tb)) (fun i _ => l0.length - (intOf i).toNat)
  case atStart => exact ⟨0, [], [], Nat.zero_le _, rfl, HJ0⟩
  case round =>
    clear HJ0
    obtain ⟨k, Ta, Tb, hk, rfl, HJ⟩ := hrel
    by_cases hlt : k < l0.length
    · obtain ⟨ad, q, rfl, eq⟩ := some85 X0.out hlt
      have Q := Aside0.mk eq
      have hc := cells85 (Kd.C_below X0.out HJ.out.1.bw) eq
      have WQ := Aside0.mk (G0.out q (List.mem_of_getElem? eq))
      clear eq
      obtain ⟨p0, p1, p2, p3, p4, p5⟩ := hc
      go_wp2_with (
        go_at_call 10; refine (right_any q.f0 WQ.out.1 _).mono ?_; rintro e w4 ⟨rfl, hb⟩
        have HJ4 := Aside0.mk (HJ.out.1.below hb)
        have HB4 := Aside0.mk (HJ4.out.below (below_alloc (Below.refl _ _) (.cells #[.int .i64 (rightF q.f0).f0, .int .i64 (rightF q.f0).f1.f0, .int .i64 (rightF q.f0).f1.f1, .int .i64 (rightF q.f0).f2, .int .i64 (rightF q.f0).f3] 36)))
        have HM4 := Aside0.mk (HJ4.out.below (below_alloc (Below.refl _ _) (.cells #[.int .i64 (rightF q.f0).f0, .int .i64 9, .int .i64 9, .int .i64 (rightF q.f0).f2, .int .i64 (rightF q.f0).f3] 36)))
        obtain ⟨m0, m1⟩ := HB4.out.mineCells
        have n5 := (cells85 (Kd.C_below X0.out HM4.out.bw) Q.out).2.2.2.2.2
        clear hb)
      clear p0 p1 p2 p3 p4 p5 m0 m1
      have hp := (pickF_some (c := q.f1) (n := 12) WQ.out.2 (by omega) (by omega)).2
      have hp0 := hp.1
      have hp1 := hp.2
      clear hp
      have HN := Aside0.mk (show 1 ≤ 1 + pickF q.f1 12 ∧ 1 + pickF q.f1 12 ≤ 1048576 from ⟨by clear n5; omega, by clear n5; omega⟩)
      refine (pick_any q.f1 12 WQ.out.2 (by decide) (by decide) _).mono ?_
      rintro e w5 ⟨rfl, rfl⟩
      go_wp2_with fail
      clear n5
      refine (HM4.out.startA (k := mineF q.f0) (mineF_small WQ.out.1) HN.out.1 HN.out.2).mono ?_
      rintro e w5 ⟨rfl, hj, hg⟩
      have HJ5 := Aside0.mk hj
      have HK5 := Aside0.mk (kept_block hg (heap_alloc_new w4 (.cells #[.int .i64 (rightF q.f0).f0, .int .i64 9, .int .i64 9, .int .i64 (rightF q.f0).f2, .int .i64 (rightF q.f0).f3] 36)) (by have := HJ4.out.ltA; omega))
      obtain ⟨d0, d1, d2, d3, d4⟩ := box36 (k := mineF q.f0) HK5.out
      clear hj hg
      go_wp2_with fail
      refine (HJ5.out.startB (k := mineF q.f0) (mineF_small WQ.out.1) HN.out.1 HN.out.2).mono ?_
      rintro e w6 ⟨rfl, hj, hg⟩
      have HJ6 := Aside0.mk hj
      clear hj hg d0 d1 d2 d3 d4 hp0 hp1
      have HO6 := Aside0.mk (HJ.out.2.put (k := mineF q.f0) (n := 1 + pickF q.f1 12) mineF_is)
      by_cases hl1 : k < l1.length
      · obtain ⟨ad1, o, rfl, eo⟩ := some85 X1.out hl1
        have O := Aside0.mk eo
        have WO := Aside0.mk (G1.out o (List.mem_of_getElem? eo))
        clear eo
        obtain ⟨p0, p1, p2, p3, p4, p5⟩ := cells85 (Kd.C_below X1.out HJ6.out.bw) O.out
        go_wp2_with fail
        refine (right_any o.f0 WO.out.1 _).mono ?_
        rintro e w7 ⟨rfl, hb⟩
        have HJ7 := Aside0.mk (HJ6.out.below hb)
        have HB7 := Aside0.mk (HJ7.out.below (below_alloc (Below.refl _ _) (.cells #[.int .i64 (rightF o.f0).f0, .int .i64 (rightF o.f0).f1.f0, .int .i64 (rightF o.f0).f1.f1, .int .i64 (rightF o.f0).f2, .int .i64 (rightF o.f0).f3] 36)))
        have n5 := (cells85 (Kd.C_below X1.out HB7.out.bw) O.out).2.2.2.2.2
        clear hb p0 p1 p2 p3 p4 p5
        go_wp2_with fail
        refine wp_region_still_tail 9 (by kernel_rfl) (by kernel_rfl) ?_
        change wpStill _ _ (World.drew _) _ _ _
        simp only [List.take_succ_cons, List.take_zero, List.drop_succ_cons, List.drop_zero]
        repeat still_step
        still_call (pick_any o.f1 12 WO.out.2 (by decide) (by decide) _)
        repeat still_step
        refine wpStill_nil ?_
        change wpList _ _ _ _ _ (World.drew _)
        clear n5
        go_wp2_with fail
        have ho := (pickF_some (c := o.f1) (n := 12) WO.out.2 (by decide) (by decide)).2
        rw [show wrap64 (1 + pickF o.f1 12) = 1 + pickF o.f1 12 by unfold wrap64; omega]
        refine ((HB7.out.below (Below.refl _ _).drew).startB (k := rightF o.f0) (rightF_small WO.out.1) (by omega) (by omega)).mono ?_
        rintro e w8 ⟨rfl, hj, hg⟩
        have HJ8 := Aside0.mk hj
        clear hj hg ho
        have HO8 := Aside0.mk (HO6.out.put_other (o := rightF o.f0) (n := 1 + pickF o.f1 12) (rightF_not WO.out.1))
        go_wp2_with fail
        go_roundw
        case rel => exact ⟨k + 1, _, _, by omega, by go_num, ⟨HJ8.out, HO8.out⟩⟩
        case measure => simp [intOf]; omega
      · go_wp2_with fail
        go_roundw
        case rel => exact ⟨k + 1, _, _, by omega, by go_num, ⟨HJ6.out, HO6.out⟩⟩
        case measure => simp [intOf]; omega
    · have hp := (pickF_some (c := t) (n := 20) HT.out (by decide) (by decide)).2
      have hp0 := hp.1
      have hp1 := hp.2
      clear hp
      go_wp2_with fail
      go_loopw [17] (fun i wr => ∃ (k : Nat) (Ta Tb : List (S36 × Int)), (k : Int) ≤ pickF t 20 ∧ i = .int .i64 k ∧ Aside0 (AJ w ba bla bha bb blb bhb w3.heap.size Ta Tb wr ∧ Own mine Ta Tb)) (fun i _ => 20 - (intOf i).toNat)
      case atStart => exact ⟨0, Ta, Tb, hp0, rfl, HJ⟩
      case round =>
        clear HJ hlt hk Ta Tb
        obtain ⟨k, Ta, Tb, hk, rfl, HJ⟩ := hrel
        go_wp2_with fail
        refine (pick_any t 20 HT.out (by decide) (by decide) _).mono ?_
        rintro e w5 ⟨rfl, rfl⟩
        by_cases hlt : (k : Int) < pickF t 20
        · go_wp2_with fail
          refine HJ.out.1.tickA.mono ?_
          rintro e w5 ⟨x, rfl, hx, hj, hg⟩
          obtain ⟨Ax, cx, rfl, hlx, hcx⟩ := Kd.R_reads hx
          have HX := Aside0.mk hx
          have HJ5 := Aside0.mk hj
          clear hx hj hcx hlx hg
          go_wp2_with fail
          refine HJ5.out.tickB.mono ?_
          rintro e w6 ⟨y, rfl, hy, hj, hg⟩
          obtain ⟨Ay, cy, rfl, hly, hcy⟩ := Kd.R_reads hy
          have HX6 := Aside0.mk (HX.out.grown HJ.out.1.ltB hg)
          have HJ6 := Aside0.mk hj
          have HY6 := Aside0.mk hy
          have HLY := Aside0.mk hly
          clear hy hj hcy hly hg HX
          generalize hxs : sortK (outT [] Ta) = xs at HX6
          generalize hys : sortK (outT [] Tb) = ys at HY6 HLY
          have HE := Aside0.mk (show xs = ys.filter (isKey mine) by rw [← hxs, ← hys]; exact HJ.out.2.out)
          have HL := Aside0.mk (show ys.length ≤ 100000 by
            rw [← hys, (sortK_perm _).length_eq]
            refine Nat.le_trans ?_ HJ.out.1.lenB
            unfold outT
            rw [List.length_map]
            exact List.length_filter_le _ _)
          clear hxs hys
          go_wp2_with fail
          go_loopw [20, 21] (fun v i wr => ∃ j : Nat, j ≤ ys.length ∧ i = .int .i64 j ∧ Aside0 (NewRow w6.heap.size wr v ((ys.take j).filter (isKey mine)) ∧ Below w6.heap.size w6 wr)) (fun _ i _ => ys.length - (intOf i).toNat)
          case atStart => exact ⟨0, Nat.zero_le _, rfl, ⟨Kd.R_nil _ _ _ _ _, Below.refl _ _⟩⟩
          case round =>
            obtain ⟨j, hj, rfl, HO⟩ := hrel
            have hll := HL.out
            by_cases hjl : j < ys.length
            · obtain ⟨ad, q, rfl, eq⟩ := some36 (Kd.R_reads' HY6.out).2.2 hjl
              obtain ⟨p0, p1, p2, p3, p4⟩ := kcells36 (Kd.R_reads' (HY6.out.below HO.out.2)).2.2 eq
              have HT1 := Aside0.mk (List.take_succ_eq_append_getElem (l := ys) (i := j) hjl)
              have HQ := Aside0.mk (show ys[j] = q by rw [List.getElem?_eq_getElem hjl] at eq; exact Option.some.inj eq)
              clear eq
              have mm := (HJ6.out.below HO.out.2).mineCells
              obtain ⟨m0, m1⟩ := mm
              by_cases h1 : q.f1.f0 = 9
              · by_cases h2 : q.f1.f1 = 9
                · rw [h1] at p1
                  rw [h2] at p2
                  go_wp2_with fail
                  go_quiet (fail)
                  have HLL := Aside0.mk (show (((ys.take j).filter (isKey mine)).length + 1) * 40 ≤ 140737488355328 by
                    have e1 := List.length_filter_le (isKey mine) (ys.take j)
                    have e2 := List.length_take_le j ys
                    omega)
                  have HF := Aside0.mk (show (ys.take (j + 1)).filter (isKey mine) = (ys.take j).filter (isKey mine) ++ [q] by
                    rw [HT1.out, HQ.out, List.filter_append, List.filter_cons_of_pos (by unfold isKey mine; simp [h1, h2]), List.filter_nil])
                  have HM := Aside0.mk (show ∀ W, k36.M W w6.heap.size (fun _ => False) q [.int .i64 q.f0, .int .i64 9, .int .i64 9, .int .i64 q.f2, .int .i64 q.f3] by
                    intro W
                    have := k36_mkM W w6.heap.size (fun _ => False) q
                    rw [h1, h2] at this; exact this)
                  go_wp2_with (
                    at_builtin; refine Kd.R_append k36 (w0 := w6) (W := wr.drewN nq) w6.heap.size rfl (.tmp 117) (.tmp 122) 30 36 (.agg #[.int .i64 0, .int .i64 0, .int .i64 0, .int .i64 0, .int .i64 0]) 40 rfl Try.underlying30 info36 rfl (by decide) (by decide) _ ((ys.take j).filter (isKey mine)) q [.int .i64 q.f0, .int .i64 9, .int .i64 9, .int .i64 q.f2, .int .i64 q.f3] (fun k => w6.heap.size ≤ k) (fun _ => False) rfl rfl (HM.out _) (fun _ h => h.elim) (fun k hk => Nat.le_trans HO.out.2.size hk) (Kd.R_drewN HO.out.1 nq) (pw_below_drewN HO.out.2 nq) HO.out.2.size HLL.out ?_
                    intro v1 w8 hR hb hg hat
                    have HO8 := Aside0.mk (show NewRow w6.heap.size w8 v1 ((ys.take (j + 1)).filter (isKey mine)) ∧ Below w6.heap.size w6 w8 from ⟨by rw [HF.out]; exact hR, hb⟩)
                    clear hR hb hg hat)
                  go_roundw
                  case rel => exact ⟨j + 1, by omega, by go_num, HO8⟩
                  case measure => simp [intOf]; omega
                · have HF := Aside0.mk (show (ys.take (j + 1)).filter (isKey mine) = (ys.take j).filter (isKey mine) by
                    rw [HT1.out, HQ.out, List.filter_append, List.filter_cons_of_neg (by unfold isKey mine; simp [h2]), List.filter_nil, List.append_nil])
                  rw [h1] at p1
                  have b2 : decide (q.f1.f1 = 9) = false := decide_eq_false h2
                  have b3 : (q.f1.f1 == 9) = false := beq_eq_false_iff_ne.mpr h2
                  clear HT1 HQ
                  go_wp2_with fail
                  go_quiet (fail)
                  go_wp2_with fail
                  go_roundw
                  case rel => exact ⟨j + 1, by omega, by go_num, ⟨by rw [HF.out]; exact HO.out.1.below (pw_below_drewN (Below.refl _ _) nq), pw_below_drewN HO.out.2 nq⟩⟩
                  case measure => simp [intOf]; omega
              · have HF := Aside0.mk (show (ys.take (j + 1)).filter (isKey mine) = (ys.take j).filter (isKey mine) by
                  rw [HT1.out, HQ.out, List.filter_append, List.filter_cons_of_neg (by unfold isKey mine; simp [h1]), List.filter_nil, List.append_nil])
                have b2 : decide (q.f1.f0 = 9) = false := decide_eq_false h1
                have b3 : (q.f1.f0 == 9) = false := beq_eq_false_iff_ne.mpr h1
                clear HT1 HQ
                go_wp2_with fail
                go_quiet (fail)
                go_wp2_with fail
                go_roundw
                case rel => exact ⟨j + 1, by omega, by go_num, ⟨by rw [HF.out]; exact HO.out.1.below (pw_below_drewN (Below.refl _ _) nq), pw_below_drewN HO.out.2 nq⟩⟩
                case measure => simp [intOf]; omega
            · obtain rfl : j = ys.length := by omega
              have hO := HO.out
              rw [List.take_length, ← HE.out] at hO
              obtain ⟨Av, cv, rfl, hlv, hcv⟩ := Kd.R_reads hO.1
              have HCV := Aside0.mk hcv
              have HLV := Aside0.mk hlv
              have HB8 := Aside0.mk hO.2
              clear hO HO hcv hlv
              go_wp2_with fail
              have HXR := Kd.R_reads' (HX6.out.below HB8.out)
              refine (same_refl HXR.2.2 HXR.2.1 HCV.out HLV.out).mono ?_
              rintro e w9 ⟨rfl, hb⟩
              have HJ9 := Aside0.mk (HJ6.out.below (HB8.out.trans (hb.mono HB8.out.size)))
              have HO9 := Aside0.mk HJ.out.2.tick
              clear hb HXR HCV HLV HB8 hjl hll hj
              by_cases hl1 : k < l1.length
              · obtain ⟨ad1, o, rfl, eo⟩ := some85 X1.out hl1
                have O := Aside0.mk eo
                have WO := Aside0.mk (G1.out o (List.mem_of_getElem? eo))
                clear eo
                obtain ⟨p0, p1, p2, p3, p4, p5⟩ := cells85 (Kd.C_below X1.out HJ9.out.bw) O.out
                go_wp2_with fail
                refine (right_any o.f0 WO.out.1 _).mono ?_
                rintro e w10 ⟨rfl, hb⟩
                have HJ10 := Aside0.mk (HJ9.out.below hb)
                have HB10 := Aside0.mk (HJ10.out.below (below_alloc (Below.refl _ _) (.cells #[.int .i64 (rightF o.f0).f0, .int .i64 (rightF o.f0).f1.f0, .int .i64 (rightF o.f0).f1.f1, .int .i64 (rightF o.f0).f2, .int .i64 (rightF o.f0).f3] 36)))
                have n5 := (cells85 (Kd.C_below X1.out HB10.out.bw) O.out).2.2.2.2.2
                clear hb p0 p1 p2 p3 p4 p5
                go_wp2_with fail
                refine wp_region_still_tail 9 (by kernel_rfl) (by kernel_rfl) ?_
                change wpStill _ _ (World.drew _) _ _ _
                simp only [List.take_succ_cons, List.take_zero, List.drop_succ_cons, List.drop_zero]
                repeat still_step
                still_call (pick_any o.f1 12 WO.out.2 (by decide) (by decide) _)
                repeat still_step
                refine wpStill_nil ?_
                change wpList _ _ _ _ _ (World.drew _)
                clear n5
                go_wp2_with fail
                have ho := (pickF_some (c := o.f1) (n := 12) WO.out.2 (by decide) (by decide)).2
                rw [show wrap64 (1 + pickF o.f1 12) = 1 + pickF o.f1 12 by unfold wrap64; omega]
                refine ((HB10.out.below (Below.refl _ _).drew).startB (k := rightF o.f0) (rightF_small WO.out.1) (by omega) (by omega)).mono ?_
                rintro e w11 ⟨rfl, hj, hg⟩
                have HJ11 := Aside0.mk hj
                have HK11 := Aside0.mk (kept_block (j := w10.heap.size) hg (heap_alloc_new w10 (.cells #[.int .i64 (rightF o.f0).f0, .int .i64 (rightF o.f0).f1.f0, .int .i64 (rightF o.f0).f1.f1, .int .i64 (rightF o.f0).f2, .int .i64 (rightF o.f0).f3] 36)) (by have := HJ10.out.ltB; omega))
                clear hj hg ho
                have HO11 := Aside0.mk (HO9.out.put_other (o := rightF o.f0) (n := 1 + pickF o.f1 12) (rightF_not WO.out.1))
                obtain ⟨mi, hmi⟩ : ∃ mi : Nat, mi = l1.length - 1 - k := ⟨_, rfl⟩
                have em : (l1.length : Int) - 1 - k = (mi : Int) := by omega
                have hml : mi < l1.length := by omega
                obtain ⟨ad2, o2, ea2, eo⟩ := some85 X1.out hml
                clear ea2 ad2
                have O2 := Aside0.mk eo
                have WO2 := Aside0.mk (G1.out o2 (List.mem_of_getElem? eo))
                clear eo hmi
                obtain ⟨p0, p1, p2, p3, p4, p5⟩ := cells85 (Kd.C_below X1.out HJ11.out.bw) O2.out
                go_wp2_with fail
                refine (right_any o2.f0 WO2.out.1 _).mono ?_
                rintro e w12 ⟨rfl, hb⟩
                have HJ12 := Aside0.mk (HJ11.out.below hb)
                have HK12 := Aside0.mk ((hb.block w10.heap.size (Array.getElem?_eq_some_iff.1 HK11.out).1).trans HK11.out)
                clear hb p0 p1 p2 p3 p4 p5 em
                go_wp2_with fail
                refine (HJ12.out.stopB (k := rightF o2.f0) (rightF_small WO2.out.1).wk).mono ?_
                rintro e w13 ⟨rfl, hj, hg⟩
                have HJ13 := Aside0.mk hj
                have HK13 := Aside0.mk (kept_block hg HK12.out (by have := HJ10.out.ltB; omega))
                clear hj hg
                have HO13 := Aside0.mk (HO11.out.del_other (o := rightF o2.f0) (n := 0) (rightF_not WO2.out.1))
                obtain ⟨d0, d1, d2, d3, d4⟩ := box36 HK13.out
                go_wp2_with fail
                refine (HJ13.out.dropB (rightF o.f0).f1).mono ?_
                rintro e w14 ⟨rfl, hj, hg⟩
                have HJ14 := Aside0.mk hj
                clear hj hg d0 d1 d2 d3 d4
                have HO14 := Aside0.mk (HO13.out.drop_other (s' := (rightF o.f0).f1) (by have := (rightF_some WO.out.1).2; unfold mine; dsimp only; omega))
                go_wp2_with fail
                go_roundw
                case rel => exact ⟨k + 1, _, _, by omega, by go_num, ⟨HJ14.out, HO14.out⟩⟩
                case measure => simp [intOf]; omega
              · go_wp2_with fail
                go_roundw
                case rel => exact ⟨k + 1, _, _, by omega, by go_num, ⟨HJ9.out, HO9.out⟩⟩
                case measure => simp [intOf]; omega
        · have HE : Aside0 (pickF t 20 = k) := ⟨by omega⟩
          go_wp2_with fail
          refine HJ.out.1.countA.mono ?_
          rintro e w5 ⟨rfl, rfl⟩
          have mm := HJ.out.1.mineCells
          obtain ⟨m0, m1⟩ := mm
          go_wp2_with fail
          refine (HJ.out.1.dropB mine).mono ?_
          rintro e w5 ⟨rfl, hj, hg⟩
          rw [HJ.out.2.count]
          have HB := Aside0.mk hj.bw
          clear hj hg
          go_wp2_with fail
          go_ret
          exact ⟨rfl, HB.out⟩
end Go.Proofs.Ytkndjjceijfdgaa.PAll
