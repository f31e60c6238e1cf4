/- Run.tick: what one tick does to a run, when what came out is what must. -/
import Derived.Test.YtkndjjceijfdgaaRun1
import Derived.IntWalk
namespace Go.Proofs.Ytkndjjceijfdgaa.PAll
open Go.RowKit Go.Proofs.YtkndjjceijfdgaaW.PrintWords Go.Proofs.YtkndjjceijfdgaaW.PrintLast Go.Proofs.YtkndjjceijfdgaaW.PrintMore Go.Proofs.YtkndjjceijfdgaaM
set_option linter.unusedVariables false
set_option linter.unusedSimpArgs false
attribute [local go_sem high] eqA36
variable {B Bo b : Nat} {w w' : World} {K os : List S36} {L : List Int}
theorem Ticked.zero {h : Int} : Ticked h K L L 0 := ⟨rfl, fun i hi => by rw [if_neg (by omega)]⟩
theorem Ticked.hold {h : Int} {Lj : List Int} {j : Nat} (ht : Ticked h K L Lj j) (hj : j < L.length) (hh : heldF h (kAt K j).f0 = true) : Ticked h K L Lj (j + 1) := by
  refine ⟨ht.1, fun i hi => ?_⟩
  rw [ht.2 i hi]
  by_cases h1 : i < j
  · rw [if_pos h1, if_pos (show i < j + 1 by omega)]
  · rw [if_neg h1]
    by_cases h2 : i = j
    · subst h2; rw [if_pos (by omega), if_pos hh]
    · rw [if_neg (by omega)]
theorem Ticked.step {h : Int} {Lj : List Int} {j : Nat} (ht : Ticked h K L Lj j) (hj : j < L.length) (hh : heldF h (kAt K j).f0 = false) : Ticked h K L (Lj.set j (lAt Lj j - 1)) (j + 1) := by
  have hl := ht.1
  refine ⟨by rw [List.length_set]; exact hl, fun i hi => ?_⟩
  rw [lAt_set (by omega)]
  by_cases h2 : i = j
  · subst h2
    rw [if_pos rfl, if_pos (by omega), if_neg (by rw [hh]; decide), ht.2 i hi, if_neg (by omega)]
  · rw [if_neg h2, ht.2 i hi]
    by_cases h1 : i < j
    · rw [if_pos h1, if_pos (show i < j + 1 by omega)]
    · rw [if_neg h1, if_neg (by omega)]
theorem Ticked.at {h : Int} {Lj : List Int} {j : Nat} (ht : Ticked h K L Lj j) (hj : j < L.length) : lAt Lj j = lAt L j := by
  rw [ht.2 j hj, if_neg (by omega)]
theorem take_mem {m : Nat} {q : S36} (hm : m < os.length) : q ∈ os.take (m + 1) ↔ q ∈ os.take m ∨ kAt os m = q := by
  rw [List.take_succ_eq_append_getElem hm, List.mem_append, List.mem_singleton]
  have : kAt os m = os[m] := by unfold kAt; rw [List.getD_eq_getElem?_getD, List.getElem?_eq_getElem hm]; rfl
  rw [this]
  constructor
  · rintro (h | h)
    · exact .inl h
    · exact .inr h.symm
  · rintro (h | h)
    · exact .inl h
    · exact .inr h.symm
set_option maxRecDepth 100000 in
set_option maxHeartbeats 8000000 in
theorem rtick_any (h : RAt B w b K L) (hh : Int) {Ao : Option Addr} {co : Nat} (ho : Kd.R k36 36 w Bo (fun j => Bo ≤ j) (.slice Ao os.length co) os) (hB : B ≤ w.heap.size) (hpe : ∀ x ∈ K, 1 ≤ x.f0 ∧ x.f0 ≤ 100) (hL : ∀ i, i < L.length → -4611686018427387904 ≤ lAt L i ∧ lAt L i ≤ 4611686018427387904)
    (hout : ∀ j, j < K.length → outs hh K L j = true → kAt K j ∈ os) (hlen : os.length = cnt (outs hh K L) K.length) (hlt : ∀ i, i + 1 < os.length → KLt (kAt os i) (kAt os (i + 1))) (hK : K.length ≤ 100000) :
    Calls Try.prog 18 #[.pointer (some ⟨b, 0, none⟩), .int .i64 hh, .slice Ao os.length co] w fun e w' => e = .returned (.bool true) ∧ (∃ L', RAt B w' b K L' ∧ Ticked hh K L L' K.length) ∧ Below B w w' := by
  have hoc : os.length ≤ 100000 := by rw [hlen]; exact Nat.le_trans (cnt_le _ _) hK
  have HH := Aside0.mk h
  have HO := Aside0.mk ho
  have HPE := Aside0.mk hpe
  have HL := Aside0.mk hL
  have HOUT := Aside0.mk hout
  have HLEN := Aside0.mk hlen
  have HLT := Aside0.mk hlt
  have HBB := Aside0.mk hB
  have HLL := Aside0.mk h.len
  clear h ho hpe hL hout hlen hlt hB
  go_enter Try.func18, Try.ntmps18
  go_wp2_with fail
  go_loopw [7, 8] (fun many jv wr => ∃ (j : Nat) (Lj : List Int), j ≤ K.length ∧ jv = .int .i64 j ∧ many = .int .i64 (cnt (outs hh K L) j) ∧ Aside0 (RAt B wr b K Lj ∧ Ticked hh K L Lj j ∧ Kd.R k36 36 wr Bo (fun j => Bo ≤ j) (.slice Ao os.length co) os ∧ Below B w wr)) (fun _ jv _ => K.length - (intOf jv).toNat)
  case atStart => exact ⟨0, L, Nat.zero_le _, rfl, rfl, ⟨HH.out, Ticked.zero, HO.out, (Below.refl _ _).mono HBB.out⟩⟩
  case round =>
    obtain ⟨j, Lj, hj, rfl, rfl, HR⟩ := hrel
    have hcj := cnt_le (outs hh K L) j
    have hcs := Aside0.mk (cnt_succ (outs hh K L) j)
    obtain ⟨Ak, ck, Al, cl, hc, hBb, hrk, hrl, hll⟩ := HR.out.1.open
    have q0 : wr.cell? ⟨b, 0, none⟩ = some (.slice Ak K.length ck) := by rw [blk_cell hc 0]; rfl
    have q1 : wr.cell? ⟨b, 1, none⟩ = some (.slice Al Lj.length cl) := by rw [blk_cell hc 1]; rfl
    have HC := Aside0.mk hc
    have HBb := Aside0.mk hBb
    have HRK := Aside0.mk hrk
    have HRL := Aside0.mk hrl
    have HLJ := Aside0.mk hll
    clear hc hBb hrk hrl hll
    by_cases hlt : j < K.length
    · obtain ⟨ad, ea, p0, p1, p2, p3, p4⟩ := key_cells (Kd.R_reads' HRK.out).2.2 hlt
      subst ea
      have hpj := HPE.out _ (kAt_mem hlt)
      have hjl : j < L.length := by have := HLL.out; omega
      have hat := Aside0.mk (HR.out.2.1.at hjl)
      have HB1 := Aside0.mk (HL.out j hjl)
      go_wp2_with fail
      refine (held_any (h := hh) (p := (kAt K j).f0) hpj.1 hpj.2 _).mono ?_
      rintro e w5 ⟨rfl, n5, rfl⟩
      cases hb : heldF hh (kAt K j).f0 with
      | true =>
        have HBT := Aside0.mk hb
        clear hb
        go_wp2_with fail
        go_roundw
        case rel =>
          refine ⟨j + 1, Lj, by omega, by go_num, ?_, ⟨HR.out.1.below (pw_below_drewN (Below.refl _ _) n5), HR.out.2.1.hold hjl HBT.out, Kd.R_drewN HR.out.2.2.1 n5, pw_below_drewN HR.out.2.2.2 n5⟩⟩
          rw [hcs.out, show outs hh K L j = false by unfold outs; rw [HBT.out]; rfl]; rfl
        case measure => simp [intOf]; omega
      | false =>
        have HBT := Aside0.mk hb
        clear hb
        have hlj : j < Lj.length := by have := HR.out.2.1.1; omega
        have HST := Aside0.mk (HR.out.2.1.step hjl HBT.out)
        have HRL2 := HRL.out
        rcases form3 HRL2 with ⟨_, e0⟩ | ⟨g, cap, eg⟩
        · exfalso; rw [e0] at hlj; simp at hlj
        · injection eg with eg1 _ eg2
          subst eg1 eg2
          have hc4 := Kd.R_cell (0 : Int) HRL2 (j : Int) (by omega) (by omega)
          rw [Int.toNat_natCast] at hc4
          obtain ⟨c4, f4⟩ := hc4
          rw [show rdOf (0 : Int) Lj (j : Int) = lAt L j by rw [← hat.out]; unfold rdOf lAt; rw [Int.toNat_natCast]] at c4
          have hset := RAt.set (w := wr.drewN n5) (w' := w) HC.out HBb.out HRK.out HRL2 HLJ.out j (lAt Lj j - 1) (pw_below_drewN HR.out.2.2.2 n5)
          have hox := Kd.R_over (Kd.R_drewN HR.out.2.2.1 n5) (Kd.R_drewN HRL2 n5) (fun q hq e => by have := only36 q hq; omega) (Kd.R_put (enc := Value.int .i64) (h1 := fun _ => rfl) (Kd.R_drewN HRL2 n5) (j : Int) (lAt Lj j - 1)).2
          rw [Int.toNat_natCast] at hox
          rw [hat.out] at hset hox HST
          have HS := Aside0.mk hset
          have HX := Aside0.mk hox
          have HJ1 := Aside0.mk (show outs hh K L j = decide (lAt L j = 1) by unfold outs; rw [HBT.out]; rfl)
          have hb1 := HB1.out
          clear hset hox HRL2
          generalize lAt L j = x at *
          obtain ⟨hb1, hb2⟩ := hb1
          clear hat
          have z0 : ((wr.drewN n5).setCell ⟨g, j, none⟩ (.int .i64 (x - 1))).cell? ⟨b, 0, none⟩ = some (.slice (some ad) K.length ck) := by rw [blk_cell HS.out.2.2 0]; rfl
          have z1 : ((wr.drewN n5).setCell ⟨g, j, none⟩ (.int .i64 (x - 1))).cell? ⟨b, 1, none⟩ = some (.slice (some ⟨g, 0, none⟩) Lj.length cl) := by rw [blk_cell HS.out.2.2 1]; rfl
          by_cases hx : x = 1
          · have hj1 := HJ1.out
            rw [decide_eq_true hx] at hj1
            subst hx
            rw [hj1] at hcs
            have HIN := Aside0.mk (HOUT.out j hlt hj1)
            have HS2 := Aside0.mk (show cnt (outs hh K L) (j + 1) = cnt (outs hh K L) j + 1 from hcs.out)
            clear hj1 hcs hb1 hb2
            rw [show (1 : Int) - 1 = 0 from rfl] at z0 z1 HS HST HX
            go_wp2_with fail
            obtain ⟨W, hW⟩ : ∃ W, W = (wr.drewN n5).setCell ⟨g, j, none⟩ (.int .i64 0) := ⟨_, rfl⟩
            rw [← hW] at z0 z1 HS HX ⊢
            clear hW q0 q1 c4 f4 p0 p1 p2 p3 p4
            have HRW := Aside0.mk HS.out.1.rows
            obtain ⟨wo, rfl⟩ : ∃ wo : World, wo = wr := ⟨_, rfl⟩
            go_loopw [10, 11] (fun fv mv w2 => ∃ (f : Bool) (m : Nat), m ≤ os.length ∧ mv = .int .i64 m ∧ fv = .bool f ∧ Aside0 ((f = true ↔ kAt K j ∈ os.take m) ∧ Below W.heap.size W w2)) (fun _ mv _ => os.length - (intOf mv).toNat)
            case atStart => exact ⟨false, 0, Nat.zero_le _, rfl, rfl, ⟨by simp, Below.refl _ _⟩⟩
            case round =>
              obtain ⟨f, m, hm, rfl, rfl, HF⟩ := hrel
              by_cases hml : m < os.length
              · have HTM := Aside0.mk (take_mem (q := kAt K j) hml)
                cases f with
                | true =>
                  have HIF := Aside0.mk (HF.out.1.1 rfl)
                  go_wp2_with fail
                  go_quiet (fail)
                  go_wp2_with fail
                  go_roundw
                  case rel => exact ⟨true, m + 1, by omega, by go_num, rfl, ⟨⟨fun _ => HTM.out.2 (.inl HIF.out), fun _ => rfl⟩, pw_below_drewN HF.out.2 nq⟩⟩
                  case measure => simp [intOf]; omega
                | false =>
                  have q0 : wr.cell? ⟨b, 0, none⟩ = some (.slice (some ad) K.length ck) := by rw [blk_cell ((HF.out.2.block b HS.out.1.lt).trans HS.out.2.2) 0]; rfl
                  obtain ⟨Ak2, ck2, hr2, hz2⟩ := HRW.out
                  rw [z0] at hz2
                  cases hz2
                  obtain ⟨ad', ea, p0, p1, p2, p3, p4⟩ := key_cells (Kd.R_reads' (Kd.R_below hr2 HF.out.2)).2.2 hlt
                  cases ea
                  obtain ⟨ado, eo, r0, r1, r2, r3, r4⟩ := key_cells (Kd.R_reads' (Kd.R_below HX.out HF.out.2)).2.2 hml
                  subst eo
                  have HNO := Aside0.mk (show ¬ kAt K j ∈ os.take m from fun h => by have := HF.out.1.2 h; cases this)
                  clear hr2
                  by_cases he : kAt os m = kAt K j
                  · have HE := Aside0.mk he
                    rw [he] at r0 r1 r2 r3 r4
                    clear he
                    go_wp2_with fail
                    go_quiet (fail)
                    go_wp2_with fail
                    go_roundw
                    case rel => exact ⟨true, m + 1, by omega, by go_num, rfl, ⟨⟨fun _ => HTM.out.2 (.inr HE.out), fun _ => rfl⟩, pw_below_drewN HF.out.2 nq⟩⟩
                    case measure => simp [intOf]; omega
                  · have hne := key_ne he
                    have HE := Aside0.mk he
                    clear he
                    go_wp2_with fail
                    go_quiet (fail)
                    go_wp2_with fail
                    go_roundw
                    case rel => exact ⟨false, m + 1, by omega, by go_num, rfl, ⟨⟨(fun h => by cases h), fun h => absurd (HTM.out.1 h) (fun h => h.elim HNO.out HE.out)⟩, pw_below_drewN HF.out.2 nq⟩⟩
                    case measure => simp [intOf]; omega
              · obtain rfl : m = os.length := by omega
                obtain rfl : f = true := HF.out.1.2 (by rw [List.take_length]; exact HIN.out)
                go_wp2_with fail
                go_roundw
                case rel =>
                  refine ⟨j + 1, _, by omega, by go_num, by rw [HS2.out]; go_num, ⟨HS.out.1.below HF.out.2, HST.out, Kd.R_below HX.out HF.out.2, ?_⟩⟩
                  exact HS.out.2.1.trans (HF.out.2.mono (Nat.le_of_lt (Nat.lt_of_le_of_lt HBb.out HS.out.1.lt)))
                case measure => simp [intOf]; omega
          · have hx1 : (x - 1 != 0) = true := bne_iff_ne.mpr (by omega)
            have hx2 : (x - 1 == 0) = false := beq_eq_false_iff_ne.mpr (by omega)
            have HJ2 := Aside0.mk (show outs hh K L j = false by rw [HJ1.out]; exact decide_eq_false hx)
            clear hx
            go_wp2_with fail
            go_roundw
            case rel =>
              refine ⟨j + 1, _, by omega, by go_num, ?_, ⟨HS.out.1, HST.out, HX.out, HS.out.2.1⟩⟩
              rw [hcs.out, HJ2.out]; rfl
            case measure => simp [intOf]; omega
    · obtain rfl : j = K.length := by omega
      have HM := Aside0.mk HR.out.2.1
      rw [← HLEN.out]
      go_wp2_with fail
      obtain ⟨wo, rfl⟩ : ∃ wo : World, wo = wr := ⟨_, rfl⟩
      go_loopw [12] (fun kv w2 => ∃ m : Nat, 1 ≤ m ∧ m ≤ os.length + 1 ∧ kv = .int .i64 m ∧ Aside0 (Below wo.heap.size wo w2)) (fun kv _ => os.length + 1 - (intOf kv).toNat)
      case atStart => exact ⟨1, Nat.le_refl _, by omega, rfl, ⟨Below.refl _ _⟩⟩
      case round =>
        obtain ⟨m, hm1, hm, rfl, HB2⟩ := hrel
        by_cases hml : m < os.length
        · obtain ⟨i, hi⟩ : ∃ i : Nat, i + 1 = m := ⟨m - 1, by omega⟩
          have HKL := Aside0.mk (HLT.out i (by omega))
          have e1 : IntKind.i64.wrap ((m : Int) - 1) = (i : Int) := by rw [IntWalk.i64_in _ (by omega)]; omega
          rw [hi] at HKL
          have hil : i < os.length := by omega
          obtain ⟨ado, eo, r0, r1, r2, r3, r4⟩ := key_cells (Kd.R_reads' (Kd.R_below HR.out.2.2.1 HB2.out)).2.2 hil
          subst eo
          obtain ⟨_, ea, s0, s1, s2, s3, s4⟩ := key_cells (Kd.R_reads' (Kd.R_below HR.out.2.2.1 HB2.out)).2.2 hml
          cases ea
          clear hi
          go_wp2_with fail
          refine wp_region_still_tail 9 (by kernel_rfl) (by kernel_rfl) ?_
          change wpStill _ _ (World.drew _) _ _ _
          simp only [List.take_succ_cons, List.take_zero, List.drop_succ_cons, List.drop_zero]
          repeat still_step
          refine wpStill_nil ?_
          change wpList _ _ _ _ _ (World.drew _)
          go_wp2_with fail
          refine (less_any HKL.out _).mono ?_
          rintro e w5 ⟨rfl, hb⟩
          have HB5 := Aside0.mk (show Below wo.heap.size wo w5 from HB2.out.drew.trans (hb.mono HB2.out.drew.size))
          clear hb r0 r1 r2 r3 r4 s0 s1 s2 s3 s4 e1
          go_wp2_with fail
          go_roundw
          case rel => exact ⟨m + 1, by omega, by omega, by go_num, HB5⟩
          case measure => simp [intOf]; omega
        · go_wp2_with fail
          go_ret
          exact ⟨by simp, ⟨_, HR.out.1.below HB2.out, HM.out⟩, HR.out.2.2.2.trans (HB2.out.mono (Nat.le_of_lt (Nat.lt_of_le_of_lt HBb.out HR.out.1.lt)))⟩
end Go.Proofs.Ytkndjjceijfdgaa.PAll
