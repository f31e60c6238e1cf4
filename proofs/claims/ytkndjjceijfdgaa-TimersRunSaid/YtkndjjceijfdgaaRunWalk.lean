/- The law TimersRun: its walk. -/
import Derived.Test.YtkndjjceijfdgaaRun3
import Derived.Test.YtkndjjceijfdgaaAloneWalk
namespace Go.Proofs.Ytkndjjceijfdgaa.PAll
open Go.RowKit Go.Proofs.YtkndjjceijfdgaaW.PrintWords Go.Proofs.YtkndjjceijfdgaaW.PrintLast Go.Proofs.YtkndjjceijfdgaaW.PrintMore Go.Proofs.YtkndjjceijfdgaaM
set_option linter.unusedVariables false
set_option linter.unusedSimpArgs false
theorem bx36 {w : World} {k : S36} : (w.alloc (.cells #[.int .i64 k.f0, .int .i64 k.f1.f0, .int .i64 k.f1.f1, .int .i64 k.f2, .int .i64 k.f3] 36)).heap[w.heap.size]? = some (.cells #[.int .i64 k.f0, .int .i64 k.f1.f0, .int .i64 k.f1.f1, .int .i64 k.f2, .int .i64 k.f3] 36) := heap_alloc_new w _
theorem rightF_le {k : S36} (hk : WK k) : (rightF k).f0 ≤ 3 := (rightF_some hk).2.1.2
set_option maxRecDepth 100000 in
set_option maxHeartbeats 16000000 in
theorem TimersRun_walk (w : World) (A0 : Option Addr) (c0 : Nat) (l0 : List S85) (x0 : Kd.C k85 w A0 l0.length l0) (h0 : l0.length ≤ c0) (y0 : l0.length * 48 ≤ 140737488351232) (g0 : ∀ q ∈ l0, WK q.f0 ∧ W64 q.f1)
    (A1 : Option Addr) (len1 c1 : Nat) (z1 : List Int) (w1 : (A1 = none ∧ len1 = 0 ∧ c1 = 0 ∧ z1 = []) ∨ ∃ x, A1 = some x ∧ len1 ≤ c1 ∧ c1 ≤ maxLen ∧ z1.length = c1 ∧ (∀ i, i < z1.length → w.cell? (x.add i) = some (.int .i64 (z1.getD i 0))) ∧ ∀ n ∈ z1, (Lit.int .i64 n).wf = true) (y1 : len1 * 8 ≤ 140737488351232) :
    Calls Try.prog 4 #[.slice A0 l0.length c0, .slice A1 len1 c1] w fun e w' => e = .returned (.bool true) ∧ Below w.heap.size w w' := by
  have X0 := Aside0.mk x0
  have G0 := Aside0.mk g0
  have X1 := Aside0.mk (show Ints w A1 len1 c1 z1 from w1)
  clear x0 g0 w1
  go_enter Try.func4, Try.ntmps4
  go_wp2_with fail
  refine (awake_any _).mono ?_
  rintro e w2 ⟨rfl, hb⟩
  have B1 := Aside0.mk hb
  clear hb
  go_wp2_with fail
  refine (new_any _).mono ?_
  rintro e w3 ⟨b, bl, bh, rfl, hT, hb, e1, e2, e3⟩
  have HR0 : Aside0 (RI w w3.heap.size b bl bh w3.heap.size [] [] [] [] (w3.alloc (.cells #[.slice none 0 0, .slice none 0 0] 32)) ∧ Match [] [] [] ∧ Pos []) := Aside0.mk (by
    have hw3 := B1.out.trans (hb.mono B1.out.size)
    have ha := below_alloc (Below.refl w3.heap.size w3) (.cells #[.slice none 0 0, .slice none 0 0] 32)
    refine ⟨⟨⟨hT.below ha, Nat.le_trans B1.out.size e1, Nat.le_trans B1.out.size e2, Nat.le_trans B1.out.size e3⟩, hT.lt, ⟨_, _, heap_alloc_new w3 _, Nat.le_refl _, Kd.R_nil _ _ _ _ _, Kd.R_nil _ _ _ _ _, rfl⟩, hw3.trans (ha.mono hw3.size), (fun p hp => by cases hp), ⟨List.nodup_nil, (fun x hx => by cases hx), (fun x hx => by cases hx)⟩, hw3.size⟩, ?_, ?_⟩
    · intro k n
      constructor
      · intro h; cases h
      · rintro ⟨j, hj, _⟩; simp at hj
    · intro j hj; simp at hj)
  clear hT hb e1 e2 e3 B1
  go_wp2_with fail
  go_loopw [8] (fun i wr => ∃ (k : Nat) (T : List (S36 × Int)) (K : List S36) (L : List Int), k ≤ l0.length ∧ i = .int .i64 k ∧ Aside0 (RI w w3.heap.size b bl bh w3.heap.size T [] K L wr ∧ Match T K L ∧ Pos L)) (fun i _ => l0.length - (intOf i).toNat)
  case atStart => exact ⟨0, [], [], [], Nat.zero_le _, rfl, HR0⟩
  case round =>
    clear HR0
    obtain ⟨k, T, K, L, hk, rfl, HR⟩ := hrel
    by_cases hlt : k < l0.length
    · obtain ⟨ad, q, rfl, eq⟩ := some85 X0.out hlt
      have Q := Aside0.mk eq
      obtain ⟨p0, p1, p2, p3, p4, p5⟩ := cells85 (Kd.C_below X0.out HR.out.1.2.2.2.1) eq
      have WQ := Aside0.mk (G0.out q (List.mem_of_getElem? eq))
      clear eq
      have hp := (pickF_some (c := q.f1) (n := 12) WQ.out.2 (by decide) (by decide)).2
      have HN := Aside0.mk (show 1 ≤ 1 + pickF q.f1 12 ∧ 1 + pickF q.f1 12 ≤ 1048576 ∧ 1 + pickF q.f1 12 ≤ 12 from ⟨by omega, by omega, by omega⟩)
      obtain ⟨hp0, hp1⟩ := hp
      go_wp2_with fail
      refine (right_any q.f0 WQ.out.1 _).mono ?_
      rintro e w4 ⟨rfl, hb⟩
      have HR4 := Aside0.mk (HR.out.1.below hb)
      have HB4 := Aside0.mk (HR4.out.below (below_alloc (Below.refl _ _) (.cells #[.int .i64 (rightF q.f0).f0, .int .i64 (rightF q.f0).f1.f0, .int .i64 (rightF q.f0).f1.f1, .int .i64 (rightF q.f0).f2, .int .i64 (rightF q.f0).f3] 36)))
      have n5 := (cells85 (Kd.C_below X0.out HB4.out.2.2.2.1) Q.out).2.2.2.2.2
      clear hb p0 p1 p2 p3 p4 p5
      go_wp2_with fail
      refine (pick_any q.f1 12 WQ.out.2 (by decide) (by decide) _).mono ?_
      rintro e w5 ⟨rfl, rfl⟩
      clear n5
      go_wp2_with fail
      refine (HB4.out.start (k := rightF q.f0) (rightF_small WQ.out.1) HN.out.1 HN.out.2.1).mono ?_
      rintro e w5 ⟨rfl, hj, hg⟩
      have HR5 := Aside0.mk hj
      have HK5 := Aside0.mk (kept_block hg bx36 (by have := HR4.out.1.1.lt; omega))
      obtain ⟨d0, d1, d2, d3, d4⟩ := box36 (k := rightF q.f0) HK5.out
      clear hj hg
      go_wp2_with fail
      refine (HR5.out.rstart (k := rightF q.f0) (rightF_small WQ.out.1) (rightF_le WQ.out.1) (1 + pickF q.f1 12)).mono ?_
      rintro e w6 ⟨rfl, K', L', hr, hs⟩
      have hl0 := HR.out.1.2.2.1.len
      have HR6 := Aside0.mk (show RI w w3.heap.size b bl bh w3.heap.size (putT T (rightF q.f0) (1 + pickF q.f1 12)) [] K' L' w6 ∧ Match (putT T (rightF q.f0) (1 + pickF q.f1 12)) K' L' ∧ Pos L' from ⟨hr, HR.out.2.1.start hl0 HR.out.1.2.2.2.2.2.1.1 (by omega) hs, hs.pos hl0 HR.out.2.2 (by omega) HN.out.2.2⟩)
      have HEQ := Aside0.mk (HR6.out.2.1.all HR6.out.1.1.1.nodup HR6.out.1.2.2.2.2.2.1.1 HR6.out.1.2.2.1.len HR6.out.2.2)
      have HCN := Aside0.mk (show ∀ n, Calls Try.prog 14 #[.pointer (some ⟨b, 0, none⟩)] (w6.drewN n) fun e w' => e = .returned (.int .i64 K'.length) ∧ w' = w6.drewN n from fun n => by rw [← HEQ.out]; exact (HR6.out.1.below (pw_below_drewN (Below.refl _ _) n)).count)
      obtain ⟨Ak, ck, hrk, q0⟩ := HR6.out.1.2.2.1.rows
      have HK5 := Aside0.mk (keys_len HR6.out.1.2.2.2.2.2.1)
      clear hr hs hl0 hrk d0 d1 d2 d3 d4
      go_wp2_with fail
      go_quiet ((go_at_call 14; exact Calls.quiet_of_same (HCN.out _)))
      go_wp2_with fail
      go_roundw
      case rel => exact ⟨k + 1, _, _, _, by omega, by go_num, ⟨HR6.out.1.below (pw_below_drewN (Below.refl _ _) nq), HR6.out.2.1, HR6.out.2.2⟩⟩
      case measure => simp [intOf]; omega
    · go_wp2_with fail
      go_loopw [12] (fun i wr => ∃ (k : Nat) (T : List (S36 × Int)) (Hd : List Int) (K : List S36) (L : List Int), k ≤ len1 ∧ i = .int .i64 k ∧ Aside0 (RI w w3.heap.size b bl bh w3.heap.size T Hd K L wr ∧ Match T K L ∧ Lb k L ∧ Hd.length ≤ 3 * k)) (fun i _ => len1 - (intOf i).toNat)
      case atStart => exact ⟨0, T, [], K, L, Nat.zero_le _, rfl, ⟨HR.out.1, HR.out.2.1, fun j hj => by have := HR.out.2.2 j hj; omega, Nat.le_refl _⟩⟩
      case round =>
        clear HR hk hlt
        obtain ⟨k, T, Hd, K, L, hk, rfl, HR⟩ := hrel
        by_cases hlt : k < len1
        · obtain ⟨ad, ea, p0, hw0⟩ := X1.out.at hlt HR.out.1.2.2.2.1
          subst ea
          have WZ := Aside0.mk hw0
          generalize z1.getD k 0 = z at p0 WZ
          clear hw0
          go_wp2_with fail
          refine (pick_any z 8 WZ.out (by decide) (by decide) _).mono ?_
          rintro e w5 ⟨rfl, rfl⟩
          generalize pickF z 8 = hh
          clear p0
          go_wp2_with fail
          obtain ⟨wo, rfl⟩ : ∃ wo : World, wo = w5 := ⟨_, rfl⟩
          go_loopw [14] (fun pv w2 => ∃ (p : Nat) (Hd' : List Int), 1 ≤ p ∧ p ≤ 4 ∧ pv = .int .i64 p ∧ Aside0 (RI w w3.heap.size b bl bh w3.heap.size T Hd' K L w2 ∧ Hd'.length ≤ 3 * k + (p - 1) ∧ ∀ q : Int, 1 ≤ q → q < p → (q ∈ Hd' ↔ heldF hh q = true))) (fun pv _ => 4 - (intOf pv).toNat)
          case atStart => exact ⟨1, Hd, Nat.le_refl _, by omega, rfl, ⟨HR.out.1, by have := HR.out.2.2.2; omega, fun q h1 h2 => by omega⟩⟩
          case round =>
            obtain ⟨p, Hd', hp1, hp4, rfl, HI⟩ := hrel
            have MR := Aside0.mk HR.out.2
            clear HR
            by_cases hp3 : p ≤ 3
            · have W64p := Aside0.mk (show W64 (p : Int) from (w64_iff _).2 (by omega))
              have HDL := Aside0.mk (show Hd'.length < maxLen by have := HI.out.2.1; unfold maxLen; omega)
              go_wp2_with fail
              refine (held_any (h := hh) (p := (p : Int)) (by omega) (by omega) _).mono ?_
              rintro e w6 ⟨rfl, n6, hn6⟩
              have HI6 := Aside0.mk (HI.out.1.below (show Below wr.heap.size wr w6 by rw [hn6]; exact pw_below_drewN (Below.refl _ _) n6))
              clear hn6
              cases hb : heldF hh (p : Int) with
              | true =>
                have HBT := Aside0.mk hb
                clear hb
                go_wp2_with fail
                refine (HI6.out.hold W64p.out HDL.out).mono ?_
                rintro e w7 ⟨rfl, Hd2, hr, hm, hl⟩
                have HI7 := Aside0.mk (show RI w w3.heap.size b bl bh w3.heap.size T Hd2 K L w7 ∧ Hd2.length ≤ 3 * k + (p + 1 - 1) ∧ ∀ q : Int, 1 ≤ q → q < ((p + 1 : Nat) : Int) → (q ∈ Hd2 ↔ heldF hh q = true) from ⟨hr, by have := HI.out.2.1; omega, fun q h1 h2 => by
                  rw [hm q]
                  by_cases hq : q = p
                  · subst hq; exact ⟨fun _ => HBT.out, fun _ => .inl rfl⟩
                  · rw [← HI.out.2.2 q h1 (by omega)]; exact ⟨fun h => h.resolve_left hq, .inr⟩⟩)
                clear hr hm hl
                go_wp2_with fail
                go_roundw
                case rel => exact ⟨p + 1, Hd2, by omega, by omega, by go_num, HI7⟩
                case measure => simp [intOf]; omega
              | false =>
                have HBT := Aside0.mk hb
                clear hb
                go_wp2_with fail
                refine (HI6.out.go W64p.out).mono ?_
                rintro e w7 ⟨rfl, Hd2, hr, hm, hl⟩
                have HI7 := Aside0.mk (show RI w w3.heap.size b bl bh w3.heap.size T Hd2 K L w7 ∧ Hd2.length ≤ 3 * k + (p + 1 - 1) ∧ ∀ q : Int, 1 ≤ q → q < ((p + 1 : Nat) : Int) → (q ∈ Hd2 ↔ heldF hh q = true) from ⟨hr, by have := HI.out.2.1; omega, fun q h1 h2 => by
                  rw [hm q]
                  by_cases hq : q = p
                  · subst hq; exact ⟨fun h => absurd rfl h.1, fun h => by rw [HBT.out] at h; cases h⟩
                  · rw [← HI.out.2.2 q h1 (by omega)]; exact ⟨fun h => h.2, fun h => ⟨hq, h⟩⟩⟩)
                clear hr hm hl
                go_wp2_with fail
                go_roundw
                case rel => exact ⟨p + 1, Hd2, by omega, by omega, by go_num, HI7⟩
                case measure => simp [intOf]; omega
            · obtain rfl : p = 4 := by omega
              go_wp2_with fail
              refine HI.out.1.tick.mono ?_
              rintro e w6 ⟨Ax, cx, rfl, hx, hr⟩
              have HX := Aside0.mk hx
              have HR6 := Aside0.mk hr
              have HK44 := Aside0.mk (show k ≤ 17592186044416 by omega)
              clear hx hr
              go_wp2_with fail
              refine (HR6.out.rtick HI.out.1.1.1.nodup MR.out.1 HI.out.2.2 HK44.out MR.out.2.1 HX.out rfl).mono ?_
              rintro e w7 ⟨rfl, L', hr, hlb, hm⟩
              have HR7 := Aside0.mk (show RI w w3.heap.size b bl bh w3.heap.size (tickT Hd' T) Hd' K L' w7 ∧ Match (tickT Hd' T) K L' ∧ Lb (k + 1) L' ∧ Hd'.length ≤ 3 * (k + 1) from ⟨hr, hm, hlb, by have := HI.out.2.1; omega⟩)
              clear hr hlb hm
              go_wp2_with fail
              go_roundw
              case rel => exact ⟨k + 1, _, _, _, _, by omega, by go_num, HR7⟩
              case measure => simp [intOf]; omega
        · go_wp2_with fail
          obtain ⟨wo, rfl⟩ : ∃ wo : World, wo = wr := ⟨_, rfl⟩
          have HLB := Aside0.mk HR.out.2.2.1
          have HKL := Aside0.mk HR.out.1.2.2.1.len
          have HK5 := keys_len HR.out.1.2.2.2.2.2.1
          go_loopw [17, 18] (fun tv jv w2 => ∃ j : Nat, j ≤ K.length ∧ jv = .int .i64 j ∧ tv = .int .i64 (cnt (fun j => decide (0 < lAt L j)) j) ∧ Aside0 (RI w w3.heap.size b bl bh w3.heap.size T Hd K L w2)) (fun _ jv _ => K.length - (intOf jv).toNat)
          case atStart => exact ⟨0, Nat.zero_le _, rfl, rfl, ⟨HR.out.1⟩⟩
          case round =>
            obtain ⟨j, hj, rfl, rfl, HI⟩ := hrel
            have hcj := cnt_le (fun j => decide (0 < lAt L j)) j
            have hcs := Aside0.mk (cnt_succ (fun j => decide (0 < lAt L j)) j)
            obtain ⟨Ak, ck, Al, cl, hc, hBb, hrk, hrl, hll⟩ := HI.out.2.2.1.open
            have q0 : wr.cell? ⟨w3.heap.size, 0, none⟩ = some (.slice Ak K.length ck) := by rw [blk_cell hc 0]; rfl
            have q1 : wr.cell? ⟨w3.heap.size, 1, none⟩ = some (.slice Al L.length cl) := by rw [blk_cell hc 1]; rfl
            have HC := Aside0.mk hc
            have HRK := Aside0.mk hrk
            have HRL := Aside0.mk hrl
            clear hc hBb hrk hrl hll
            by_cases hjl : j < K.length
            · have hjL : j < L.length := by have := HKL.out; omega
              obtain ⟨ad, ea, p0, p1, p2, p3, p4⟩ := key_cells (Kd.R_reads' HRK.out).2.2 hjl
              subst ea
              obtain ⟨al, ea, s0⟩ := int_cell (Kd.R_reads' HRL.out).2.2 hjL
              subst ea
              have HSM := Aside0.mk (HR.out.1.2.2.2.2.2.1.2.1 _ (kAt_mem hjl))
              have hb1 := HLB.out j hjL
              obtain ⟨hb1, hb2⟩ := hb1
              by_cases hpos : 0 < lAt L j
              · have HM := Aside0.mk ((HR.out.2.1 (kAt K j) (lAt L j)).2 ⟨j, hjl, rfl, rfl, hpos⟩)
                rw [decide_eq_true hpos] at hcs
                have d1 : decide (0 < lAt L j) = true := decide_eq_true hpos
                have HC2 := Aside0.mk (show cnt (fun j => decide (0 < lAt L j)) (j + 1) = cnt (fun j => decide (0 < lAt L j)) j + 1 from hcs.out)
                clear hcs
                go_wp2_with fail
                refine (HI.out.left_yes HSM.out HM.out).mono ?_
                rintro e w8 ⟨rfl, hb⟩
                have HI8 := Aside0.mk (HI.out.below hb)
                have q0 : w8.cell? ⟨w3.heap.size, 0, none⟩ = some (.slice (some ad) K.length ck) := by rw [blk_cell ((hb.block _ HI.out.2.2.1.lt).trans HC.out) 0]; rfl
                have q1 : w8.cell? ⟨w3.heap.size, 1, none⟩ = some (.slice (some al) L.length cl) := by rw [blk_cell ((hb.block _ HI.out.2.2.1.lt).trans HC.out) 1]; rfl
                have s1 := keep_cell hb s0
                clear hb p0 p1 p2 p3 p4
                go_wp2_with fail
                go_roundw
                case rel => exact ⟨j + 1, by omega, by go_num, by rw [HC2.out]; go_num, HI8⟩
                case measure => simp [intOf]; omega
              · have HM := Aside0.mk (show kAt K j ∉ keysT T from fun h => by
                  unfold keysT at h
                  obtain ⟨⟨k', n'⟩, hm', e'⟩ := List.mem_map.1 h
                  change k' = kAt K j at e'
                  subst e'
                  obtain ⟨i, hi, ei, el, hp⟩ := (HR.out.2.1 _ _).1 hm'
                  have := kAt_inj HR.out.1.2.2.2.2.2.1.1 hi hjl ei
                  subst this
                  rw [el] at hpos; exact hpos hp)
                have d1 : decide (0 < lAt L j) = false := decide_eq_false hpos
                have HC2 := Aside0.mk (show cnt (fun j => decide (0 < lAt L j)) (j + 1) = cnt (fun j => decide (0 < lAt L j)) j by
                  rw [hcs.out, d1]; rfl)
                clear hcs hpos
                go_wp2_with fail
                refine (HI.out.left_no HSM.out HM.out).mono ?_
                rintro e w8 ⟨rfl, hb⟩
                have HI8 := Aside0.mk (HI.out.below hb)
                have q0 : w8.cell? ⟨w3.heap.size, 0, none⟩ = some (.slice (some ad) K.length ck) := by rw [blk_cell ((hb.block _ HI.out.2.2.1.lt).trans HC.out) 0]; rfl
                have q1 : w8.cell? ⟨w3.heap.size, 1, none⟩ = some (.slice (some al) L.length cl) := by rw [blk_cell ((hb.block _ HI.out.2.2.1.lt).trans HC.out) 1]; rfl
                have s1 := keep_cell hb s0
                clear hb p0 p1 p2 p3 p4
                go_wp2_with fail
                go_roundw
                case rel => exact ⟨j + 1, by omega, by go_num, by rw [HC2.out], HI8⟩
                case measure => simp [intOf]; omega
            · obtain rfl : j = K.length := by omega
              have HCN := Aside0.mk (HR.out.2.1.count HR.out.1.1.1.nodup HR.out.1.2.2.2.2.2.1.1)
              go_wp2_with fail
              refine HI.out.count.mono ?_
              rintro e w8 ⟨rfl, rfl⟩
              rw [HCN.out]
              go_wp2_with fail
              go_ret
              exact ⟨by simp, HI.out.2.2.2.1⟩
end Go.Proofs.Ytkndjjceijfdgaa.PAll
