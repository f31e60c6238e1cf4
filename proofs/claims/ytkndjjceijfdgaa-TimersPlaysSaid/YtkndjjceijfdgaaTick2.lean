/- The contract of Tick, continued: the walk. -/
import Derived.Test.YtkndjjceijfdgaaTick
namespace Go.Proofs.Ytkndjjceijfdgaa.PAll
open Go.RowKit Go.Proofs.YtkndjjceijfdgaaW.PrintWords Go.Proofs.YtkndjjceijfdgaaW.PrintLast Go.Proofs.YtkndjjceijfdgaaW.PrintMore Go.Proofs.YtkndjjceijfdgaaM
set_option linter.unusedVariables false
set_option linter.unusedSimpArgs false
set_option linter.unnecessarySimpa false
variable {w : World} {b bl bh : Nat} {T : List (S36 × Int)} {Hd : List Int}
/-- Tick under way: dn are done, R are to come; out's box is block w.heap.size, the iterator the next one. -/
def TickI (w : World) (bl : Nat) (T : List (S36 × Int)) (Hd : List Int) (wr : World) : Prop :=
  ∃ (dn R : List (S36 × Int)) (x : Value), RangeAt Try.prog 36 wr bl (w.heap.size + 1) ((tickT Hd dn ++ R).map tp) (R.map tp) ∧ T.Perm (dn ++ R) ∧
    wr.heap[w.heap.size]? = some (.cells #[x, .func (.func 31) #[] #[]] 79) ∧ Kd.R k36 36 wr (w.heap.size + 2) (fun k => w.heap.size + 2 ≤ k) x (outT Hd dn) ∧ w.grownBy wr (some bl) ∧ w.heap.size + 2 ≤ wr.heap.size
theorem range_put {r : Nat} {k : S36} {n m : Int} {L R1 : List (S36 × Int)} (h : RangeAt Try.prog 36 w bl r (((k, n) :: L).map tp) (R1.map tp)) (hs : ∀ p ∈ R1, p ∈ L) :
    ∃ w', (Instr.mapUpdate 70 (.map (some bl)) (kv k) (.int .i64 m)).run Try.prog w = .ok () w' ∧ RangeAt Try.prog 36 w' bl r (((k, m) :: L).map tp) (R1.map tp) ∧ w.mapTurned w' bl := by
  obtain ⟨l, hl⟩ := range_key h (List.mem_cons_self ..)
  refine h.put_old law36 Try.underlying70 hl (v := .int .i64 n) (val := .int .i64 m) (L1 := L.map tp) (List.Perm.refl _) ?_
  intro v hv
  obtain ⟨n', rfl, hm⟩ := mem_tp.1 hv
  have hn := keys_nodup h.owns.nodup
  have := (List.nodup_cons.1 hn).1
  exact this (List.mem_map.2 ⟨_, hs _ hm, rfl⟩)
theorem TAt.grown {w' : World} {row : Option Nat} (h : TAt w b bl bh T Hd) (hg : w.grownBy w' row) (hr : ∀ j, row = some j → j ≠ b ∧ j ≠ bl ∧ j ≠ bh) : TAt w' b bl bh T Hd :=
  h.same (hg.block b h.lt.1 (fun e => (hr b e.symm).1 rfl)) (hg.block bl h.lt.2.1 (fun e => (hr bl e.symm).2.1 rfl)) (hg.block bh h.lt.2.2 (fun e => (hr bh e.symm).2.2 rfl))
theorem tickT_snoc (dn : List (S36 × Int)) (p : S36 × Int) : tickT Hd (dn ++ [p]) = tickT Hd dn ++ (tick1 Hd p).toList := by
  unfold tickT
  rw [List.filterMap_append]
  cases h : tick1 Hd p <;> simp [h]
theorem outT_snoc (dn : List (S36 × Int)) (p : S36 × Int) : outT Hd (dn ++ [p]) = outT Hd dn ++ (if runs Hd p then [p.1] else []) := by
  unfold outT; rw [List.filter_append, List.map_append]; congr 1
  by_cases h : runs Hd p = true
  · rw [List.filter_cons_of_pos h, if_pos h]; rfl
  · rw [List.filter_cons_of_neg h, if_neg h]; rfl
theorem info36 : (Try.prog.info? 36).map (fun i => (i.zero, i.size, i.bytes)) = some (some (.agg #[.int .i64 0, .int .i64 0, .int .i64 0, .int .i64 0, .int .i64 0]), 5, 40) := by kernel_rfl
/-- The row that has run out is laid into out. -/
theorem tick_app {w4 w5 wr : World} {dn R1 : List (S36 × Int)} {k : S36} {x v1 : Value} (hT1 : T.Perm ((dn ++ [(k, 1)]) ++ R1)) (hh : k.f0 ∉ Hd)
    (hR4 : RangeAt Try.prog 36 w4 bl (w.heap.size + 1) ((tickT Hd dn ++ R1).map tp) (R1.map tp)) (hg4 : w.grownBy w4 (some bl)) (hb5 : Below (w.heap.size + 2) w4.drew w5)
    (hc5 : w5.heap[w.heap.size]? = some (.cells #[x, .func (.func 31) #[] #[]] 79)) (hR5 : Kd.R k36 36 w5 (w.heap.size + 2) (fun k => w.heap.size + 2 ≤ k) v1 (outT Hd dn ++ [k]))
    (hg5 : w4.drew.grownBy w5 x.ownBlock) (hx : ∀ j, x.ownBlock = some j → w.heap.size + 2 ≤ j) (hsz : w.heap.size + 2 ≤ w4.heap.size) (hbl : bl < w.heap.size) (e3 : wr.rangeLeft bl (w.heap.size + 1) = R1.length + 1) :
    TickI w bl T Hd (w5.setCell ⟨w.heap.size, 0, none⟩ v1) ∧ (w5.setCell ⟨w.heap.size, 0, none⟩ v1).rangeLeft bl (w.heap.size + 1) < wr.rangeLeft bl (w.heap.size + 1) := by
  have ho : tick1 Hd (k, 1) = none := by unfold tick1; rw [if_neg hh, if_pos rfl]
  have ho2 : runs Hd (k, 1) = true := by simp [runs, hh]
  have hset : w5.grownBy (w5.setCell ⟨w.heap.size, 0, none⟩ v1) (some w.heap.size) := ⟨rfl, rfl, rfl, by simp, fun i _ hn => Below.heap_setCell _ _ _ _ (fun e => hn (by rw [e]))⟩
  have hR6 : RangeAt Try.prog 36 (w5.setCell ⟨w.heap.size, 0, none⟩ v1) bl (w.heap.size + 1) ((tickT Hd dn ++ R1).map tp) (R1.map tp) := by
    refine hR4.same ?_ ?_
    · exact (Below.heap_setCell _ _ _ _ (by show bl ≠ w.heap.size; omega)).trans (hb5.block bl (by omega))
    · exact (Below.heap_setCell _ _ _ _ (by show w.heap.size + 1 ≠ w.heap.size; omega)).trans (hb5.block _ (by omega))
  refine ⟨⟨dn ++ [(k, 1)], R1, v1, ?_, hT1, heap_setCell_same _ _ 0 _ _ _ hc5, ?_, ?_, ?_⟩, ?_⟩
  · rw [tickT_snoc, ho]; simpa using hR6
  · rw [outT_snoc, ho2]
    exact Kd.R_grown hR5 hset (fun j hj e => by injection e with e; omega)
  · exact ((hg4.trans (grown_of_below (Below.refl _ _).drew _)).andThen hg5 (fun j hj => .inl (by have := hx j hj; omega))).andThen hset (fun j hj => by injection hj with hj; exact .inl (by omega))
  · have h1 := hb5.size
    have h2 := hset.size
    have h3 : w4.heap.size ≤ w5.heap.size := h1
    omega
  · rw [e3, hR6.left_eq, List.length_map]; omega
set_option maxHeartbeats 8000000 in
set_option maxRecDepth 100000 in
theorem tick_big (h : TAt w b bl bh T Hd) (hgood : goodT T) (hroom : T.length ≤ 2199023255552) :
    Calls Try.prog 19 #[.pointer (some ⟨b, 0, none⟩)] w fun e w' => ∃ x, e = .returned x ∧ Kd.R k36 36 w' (w.heap.size + 2) (fun k => w.heap.size + 2 ≤ k) x (sortK (outT Hd T)) ∧ TAt w' b bl bh (tickT Hd T) Hd ∧ w.grownBy w' (some bl) := by
  have hb0 := below_alloc (Below.refl w.heap.size w) (.cells #[.slice none 0 0, .func (.func 31) #[] #[]] 79)
  have h0 := h.below hb0
  have hlt := h.lt
  have hbox := heap_alloc_new w (.cells #[.slice none 0 0, .func (.func 31) #[] #[]] 79)
  have e0 : (w.alloc (.cells #[.slice none 0 0, .func (.func 31) #[] #[]] 79)).heap.size = w.heap.size + 1 := by simp
  have c0 := h0.cells.1
  obtain ⟨w1, hrange, hR, hb1, hs1⟩ := h0.range
  rw [e0] at hrange hR hs1
  have HI := Aside0.mk (show TickI w bl T Hd w1 from ⟨[], T, .slice none 0 0, hR, List.Perm.refl _, (hb1.block _ (by omega)).trans hbox, Kd.R_nil _ _ _ _ _, (grown_of_below hb0 _).trans (grown_of_below hb1 _), by omega⟩)
  have HH := Aside0.mk h
  have HG := Aside0.mk hgood
  clear h h0 hR hb1 hb0 hbox hs1 hgood
  go_enter Try.func19, Try.ntmps19
  go_wp2
  go_loopw [16] (fun _ wr => TickI w bl T Hd wr) (fun _ wr => wr.rangeLeft bl (w.heap.size + 1))
  case atStart => exact HI.out
  case round =>
    clear c0 hrange HI w1
    obtain ⟨dn, R, x, hR, hT, hX, hx, hg, hsz⟩ := hrel
    have hne := HH.out.ne
    have hbe : wr.heap[b]? = some (.cells #[.map (some bl), .map (some bh)] 73 (0, 0)) := (hg.block b hlt.1 (by simpa using hne.1)).trans HH.out.1
    have c0 : wr.cell? ⟨b, 0, none⟩ = some (.map (some bl)) := (blk_cell hbe 0).trans rfl
    have e3 : wr.rangeLeft bl (w.heap.size + 1) = R.length := hR.left_eq.trans (List.length_map _)
    rcases range_next hR 0 with ⟨rfl, hnext⟩ | ⟨k, n, R1, w2, hp, hnext, hR2, hg2, hs2, hen⟩
    · -- nothing is left
      rw [List.append_nil] at hT hR
      have hTA : TAt wr b bl bh (tickT Hd T) Hd := HH.out.turned_l (hR.owns.perm ((hT.filterMap _).map tp)) hg
      have hxb : ∀ j, x.ownBlock = some j → w.heap.size + 2 ≤ j := hx.1
      have hso : sortK (outT Hd T) = sortK (outT Hd dn) := sortK_congr ((hT.filter _).map _)
      have hlen : (outT Hd dn).length < 4611686018427387904 := by
        unfold outT; rw [List.length_map]
        have := List.length_filter_le (runs Hd) dn
        have := hT.length_eq
        omega
      have HX := Aside0.mk hX; have Hx := Aside0.mk hx; have HT := Aside0.mk hTA; have HG2 := Aside0.mk hg; have HXB := Aside0.mk hxb
      clear hX hx hTA hg hxb hR hT hbe e3 c0
      go_wp2_with (go_at_call 32; refine (sorted_any w.heap.size _ (w.heap.size + 2) (fun k => w.heap.size + 2 ≤ k) _ x HX.out Hx.out (fun e => by have := HXB.out _ e.symm; omega) hlen).mono ?_; rintro e w3 ⟨rfl, hR3, hg3⟩; have HR3 := Aside0.mk hR3; have HG3 := Aside0.mk hg3; clear hR3 hg3)
      go_ret
      refine ⟨x, rfl, by rw [hso]; exact HR3.out, HT.out.grown HG3.out (fun j hj => ?_), HG2.out.andThen HG3.out (fun j hj => .inl ?_)⟩
      · have := HXB.out j hj; omega
      · have := HXB.out j hj; omega
    · -- an entry
      have hgk := HG.out (k, n) (hT.mem_iff.2 (List.mem_append_right _ (hp.mem_iff.2 (List.mem_cons_self ..))))
      have hk0 : W64 k.f0 := hgk.1.1
      obtain ⟨W3, hW3⟩ : ∃ W3, W3 = w2.alloc (.cells #[.int .i64 k.f0, .int .i64 k.f1.f0, .int .i64 k.f1.f1, .int .i64 k.f2, .int .i64 k.f3] 36) := ⟨_, rfl⟩
      have hb3 : Below w2.heap.size w2 W3 := hW3 ▸ below_alloc (Below.refl w2.heap.size w2) (.cells #[.int .i64 k.f0, .int .i64 k.f1.f0, .int .i64 k.f1.f1, .int .i64 k.f2, .int .i64 k.f3] 36)
      have hk3 : W3.heap[w2.heap.size]? = some (.cells #[.int .i64 k.f0, .int .i64 k.f1.f0, .int .i64 k.f1.f1, .int .i64 k.f2, .int .i64 k.f3] 36) := hW3 ▸ heap_alloc_new w2 _
      have hsz2 : w.heap.size + 2 ≤ w2.heap.size := by omega
      have hsz3 : W3.heap.size = w2.heap.size + 1 := by rw [hW3]; simp
      -- what V holds, the world behind the look-up
      obtain ⟨V, hV⟩ : ∃ V, V = W3.alloc (.cells #[] 74) := ⟨_, rfl⟩
      have hbV : Below W3.heap.size W3 V := hV ▸ below_alloc (Below.refl W3.heap.size W3) (.cells #[] 74)
      have hg3 : w.grownBy W3 (some bl) := (hg.andThen hg2 (by rintro j ⟨⟩; left; omega)).trans (grown_of_below hb3 _)
      have hgV : w.grownBy V (some bl) := hg3.trans (grown_of_below hbV _)
      have hb3e : W3.heap[b]? = some (.cells #[.map (some bl), .map (some bh)] 73 (0, 0)) := (hg3.block b hlt.1 (by simpa using hne.1)).trans HH.out.1
      have hbVe : V.heap[b]? = some (.cells #[.map (some bl), .map (some bh)] 73 (0, 0)) := (hgV.block b hlt.1 (by simpa using hne.1)).trans HH.out.1
      have hh3 : W3.heap[bh]? = w.heap[bh]? := hg3.block bh hlt.2.2 (by have := HH.out.2.2.2; simpa using fun e => this e.symm)
      have hhV : V.heap[bh]? = w.heap[bh]? := hgV.block bh hlt.2.2 (by have := HH.out.2.2.2; simpa using fun e => this e.symm)
      have hkV : V.heap[w2.heap.size]? = some (.cells #[.int .i64 k.f0, .int .i64 k.f1.f0, .int .i64 k.f1.f1, .int .i64 k.f2, .int .i64 k.f3] 36) := (hbV.block _ (by omega)).trans hk3
      have hX2 : w2.heap[w.heap.size]? = some (.cells #[x, .func (.func 31) #[] #[]] 79) := (hg2.block _ (by omega) (by simp)).trans hX
      have hXV : V.heap[w.heap.size]? = some (.cells #[x, .func (.func 31) #[] #[]] 79) := (hbV.block _ (by omega)).trans ((hb3.block _ (by omega)).trans hX2)
      have hRV : RangeAt Try.prog 36 V bl (w.heap.size + 1) ((tickT Hd dn ++ R).map tp) (R1.map tp) := (hR2.below hb3).below hbV
      have hxV : Kd.R k36 36 V (w.heap.size + 2) (fun k => w.heap.size + 2 ≤ k) x (outT Hd dn) := Kd.R_below (Kd.R_below (Kd.R_grown hx hg2 (fun j hj e => by injection e with e; omega)) hb3) hbV
      have hT1 : T.Perm ((dn ++ [(k, n)]) ++ R1) := by
        rw [List.append_assoc]
        exact hT.trans (List.Perm.append_left _ hp)
      have hRl : (tickT Hd dn ++ R).Perm ((k, n) :: (tickT Hd dn ++ R1)) := (List.Perm.append_left _ hp).trans List.perm_middle
      have e4 : R.length = R1.length + 1 := hp.length_eq
      have hszV : w.heap.size + 2 ≤ V.heap.size := by have := hbV.size; omega
      have m1 : W3.cell? ⟨b, 1, none⟩ = some (.map (some bh)) := by rw [blk_cell hb3e 1]; rfl
      have m2 : V.cell? ⟨b, 1, none⟩ = some (.map (some bh)) := by rw [blk_cell hbVe 1]; rfl
      have m3 : V.cell? ⟨b, 0, none⟩ = some (.map (some bl)) := by rw [blk_cell hbVe 0]; rfl
      have k3 := box36 hk3
      have kV := box36 hkV
      have l1 := held_look (W := W3.drew) HH.out.2.2.1 hh3 hk0
      have l2 := held_look (W := V.drew) HH.out.2.2.1 hhV hk0
      have HRV := Aside0.mk hRV; have HxV := Aside0.mk hxV; have HXV := Aside0.mk hXV; have HGV := Aside0.mk hgV; have HT1 := Aside0.mk hT1; have HRl := Aside0.mk hRl; have HGK := Aside0.mk hgk; have HKV := Aside0.mk hkV; have E3 := Aside0.mk (e3.trans e4); have HSV := Aside0.mk hszV; have HK2 := Aside0.mk (show w.heap.size + 2 ≤ w2.heap.size ∧ w2.heap.size < V.heap.size from ⟨hsz2, by have := hbV.size; omega⟩)
      clear hRV hxV hXV hgV hT1 hRl hgk hR hR2 hT hX hx hg hsz hbe e3 hp hg2 hb3 hk3 hsz2 hsz3 hbV hg3 hb3e hbVe hh3 hhV hkV hX2 hk0 c0 e4 hszV
      obtain ⟨k30, k31, k32, k33, k34⟩ := k3
      obtain ⟨kV0, kV1, kV2, kV3, kV4⟩ := kV
      unfold kv at hnext hen
      clear hs2
      by_cases hh : k.f0 ∈ Hd
      · rw [decide_eq_true hh] at l1 l2
        go_wp2
        rw [← hW3]
        clear hW3
        rw [hV] at l2 m2 m3 kV0
        go_region
        all_goals
          rw [← hV]
          rw [← hV] at l2 m2 m3 kV0
          clear hV
          go_wp2
          have hV' : Below V.heap.size V V.drew := (Below.refl _ _).drew
          have ho : tick1 Hd (k, n) = some (k, n) := if_pos hh
          have ho2 : runs Hd (k, n) = false := by simp [runs, hh]
          refine ⟨⟨dn ++ [(k, n)], R1, x, ?_, HT1.out, (hV'.block _ (by have := HSV.out; omega)).trans HXV.out, ?_, HGV.out.trans (grown_of_below hV' _), HSV.out⟩, ?_⟩
          · rw [tickT_snoc, ho]
            refine (HRV.out.below hV').permL (List.Perm.map tp ?_)
            refine List.Perm.trans ?_ HRl.out.symm
            simpa using List.perm_middle
          · rw [outT_snoc, ho2]; simpa using Kd.R_below HxV.out hV'
          · rw [E3.out, (HRV.out.below hV').left_eq, List.length_map]; omega
      · rw [decide_eq_false hh] at l1 l2
        by_cases h1 : n = 1
        · subst h1
          go_wp2
          rw [← hW3]
          clear hW3
          rw [hV] at l2 m2 m3 kV0
          go_region
          all_goals
            rw [← hV]
            rw [← hV] at l2 m2 m3 kV0
            clear hV l1 l2 m1 k30 k31 k32 k33 k34
            obtain ⟨w4, hdel, hR4, hg4⟩ := range_del ((HRV.out.below (w' := V.drew.drew) (Below.refl _ _).drew.drew).permL (HRl.out.map tp).symm) (fun p hp => List.mem_append_right _ hp)
            have hlt4 := hg4.grown.size
            have c4 : w4.heap[w.heap.size]? = some (.cells #[x, .func (.func 31) #[] #[]] 79) := (hg4.grown.block w.heap.size (by have := HSV.out; show w.heap.size < V.heap.size; omega) (by simpa using fun e => by omega)).trans HXV.out
            have hk4 := (hg4.grown.block w2.heap.size (by have := HK2.out; show w2.heap.size < V.heap.size; omega) (by have := HK2.out; simpa using fun e => by omega)).trans HKV.out
            have hg4' : w.grownBy w4 (some bl) := HGV.out.trans ((grown_of_below (Below.refl V.heap.size V).drew.drew (some bl)).trans hg4.grown)
            have hx4 : Kd.R k36 36 w4 (w.heap.size + 2) (fun k => w.heap.size + 2 ≤ k) x (outT Hd dn) := Kd.R_grown (Kd.R_below HxV.out (w1 := V.drew.drew) (Below.refl _ _).drew.drew) hg4.grown (fun j hj e => by injection e with e; omega)
            have hlt5 : w.heap.size + 2 ≤ w4.heap.size := Nat.le_trans HSV.out hlt4
            obtain ⟨W5, hW5⟩ : ∃ W5, W5 = w4.alloc (.cells #[.int .i64 k.f0, .int .i64 k.f1.f0, .int .i64 k.f1.f1, .int .i64 k.f2, .int .i64 k.f3] 36) := ⟨_, rfl⟩
            have hc5 : (w4.alloc (.cells #[.int .i64 k.f0, .int .i64 k.f1.f0, .int .i64 k.f1.f1, .int .i64 k.f2, .int .i64 k.f3] 36)).heap[w.heap.size]? = some (.cells #[x, .func (.func 31) #[] #[]] 79) := ((below_alloc (Below.refl w4.heap.size w4) _).block _ (by omega)).trans c4
            have x0 : w4.cell? ⟨w.heap.size, 0, none⟩ = some x := by rw [blk_cell c4 0]; rfl
            have x1 : (w4.alloc (.cells #[.int .i64 k.f0, .int .i64 k.f1.f0, .int .i64 k.f1.f1, .int .i64 k.f2, .int .i64 k.f3] 36)).cell? ⟨w.heap.size, 0, none⟩ = some x := by rw [blk_cell hc5 0]; rfl
            obtain ⟨kc0, kc1, kc2, kc3, kc4⟩ := box36 hk4
            have HC4 := Aside0.mk c4
            have HL := Aside0.mk (show ((outT Hd dn).length + 1) * 40 ≤ 140737488355328 by
              unfold outT; rw [List.length_map]
              have h1 := List.length_filter_le (runs Hd) dn
              have h2 := HT1.out.length_eq
              simp only [List.length_append, List.length_cons] at h2
              omega)
            have HR4 := Aside0.mk hR4; have HG4 := Aside0.mk hg4'; have HX4 := Aside0.mk hx4; have HL4 := Aside0.mk hlt5
            clear hR4 hg4 hlt4 hg4' hx4 hlt5 hk4 c4 hW5 W5 hc5
            unfold kv at hdel
            go_wp2
            go_region
            go_wp2
            clear hdel m2 m3 kV0 kV1 kV2 kV3 kV4
            go_region_law (
              refine Kd.R_append_step k36 (w0 := w4.drew) (W := w4.drew) (w.heap.size + 2) rfl (.tmp 42) (.tmp 44) 30 36 (.agg #[.int .i64 0, .int .i64 0, .int .i64 0, .int .i64 0, .int .i64 0]) 40 rfl Try.underlying30 info36 rfl (by decide) (by omega) x (outT Hd dn) k [.int .i64 k.f0, .int .i64 k.f1.f0, .int .i64 k.f1.f1, .int .i64 k.f2, .int .i64 k.f3] (fun k => w.heap.size + 2 ≤ k) (fun _ => False) (by simp [Act.eval, Act.put]) (by simp [Act.eval, Act.put]) (k36_mkM _ _ _ k) (fun _ hk => hk.elim) (fun j hj => Nat.le_trans HL4.out hj) (Kd.R_below HX4.out (Below.refl _ _).drew) (Below.refl _ _) HL4.out HL.out ?_
              intro v1 w5 hR5 hb5 hg5 hat5
              obtain ⟨A1, cp1, rfl⟩ := Kd.R_slice hR5
              have hc5 := (hb5.block w.heap.size (by omega)).trans HC4.out
              have y0 : w5.cell? ⟨w.heap.size, 0, none⟩ = some x := by rw [blk_cell hc5 0]; rfl
              have f0 := blk_frozen hc5 0
              have HR5 := Aside0.mk hR5; have HG5 := Aside0.mk hg5; have HC5 := Aside0.mk hc5; have HB5 := Aside0.mk hb5
              clear hR5 hb5 hg5 hat5 hc5)
            all_goals
              go_wp2
              have hR5 := HR5.out
              rw [List.length_append] at hR5
              exact tick_app HT1.out hh HR4.out HG4.out HB5.out HC5.out hR5 HG5.out HX4.out.1 HL4.out hlt.2.1 E3.out
        · go_wp2
          rw [← hW3]
          clear hW3
          rw [hV] at l2 m2 m3 kV0
          go_region
          all_goals
            rw [← hV]
            rw [← hV] at l2 m2 m3 kV0
            clear hV l1 l2 m1 k30 k31 k32 k33 k34
            have h1n : 1 ≤ n ∧ n ≤ 1048576 := HGK.out.2
            have ho : tick1 Hd (k, n) = some (k, n - 1) := by unfold tick1; rw [if_neg hh, if_neg h1]
            have ho2 : runs Hd (k, n) = false := by simp [runs, h1]
            obtain ⟨w4, hput, hR4, hg4⟩ := range_put (m := n - 1) ((HRV.out.below (w' := V.drew.drew) (Below.refl _ _).drew.drew).permL (HRl.out.map tp).symm) (fun p hp => List.mem_append_right _ hp)
            have hlt4 := hg4.grown.size
            have hg4' : w.grownBy w4 (some bl) := HGV.out.trans ((grown_of_below (Below.refl V.heap.size V).drew.drew (some bl)).trans hg4.grown)
            have c4 : w4.heap[w.heap.size]? = some (.cells #[x, .func (.func 31) #[] #[]] 79) := (hg4.grown.block w.heap.size (by have := HSV.out; show w.heap.size < V.heap.size; omega) (by simpa using fun e => by omega)).trans HXV.out
            have hx4 : Kd.R k36 36 w4 (w.heap.size + 2) (fun k => w.heap.size + 2 ≤ k) x (outT Hd dn) := Kd.R_grown (Kd.R_below HxV.out (w1 := V.drew.drew) (Below.refl _ _).drew.drew) hg4.grown (fun j hj e => by injection e with e; omega)
            have hlt5 : w.heap.size + 2 ≤ w4.heap.size := Nat.le_trans HSV.out hlt4
            have HI := Aside0.mk (show TickI w bl T Hd w4 ∧ w4.rangeLeft bl (w.heap.size + 1) < wr.rangeLeft bl (w.heap.size + 1) from by
              refine ⟨⟨dn ++ [(k, n)], R1, x, ?_, HT1.out, c4, ?_, hg4', hlt5⟩, ?_⟩
              · rw [tickT_snoc, ho]
                refine hR4.permL (List.Perm.map tp ?_)
                simpa using List.perm_middle
              · rw [outT_snoc, ho2]; simpa using hx4
              · rw [E3.out, hR4.left_eq, List.length_map]; omega)
            clear hR4 hg4 hlt4 hg4' c4 hx4 hlt5 ho ho2
            unfold kv at hput
            go_wp2
            go_region
            go_wp2
            exact HI.out
theorem tick_any (h : TAt w b bl bh T Hd) (hgood : goodT T) (hroom : T.length < 2147483648) :
    Calls Try.prog 19 #[.pointer (some ⟨b, 0, none⟩)] w fun e w' => ∃ x, e = .returned x ∧ Kd.R k36 36 w' (w.heap.size + 2) (fun k => w.heap.size + 2 ≤ k) x (sortK (outT Hd T)) ∧ TAt w' b bl bh (tickT Hd T) Hd ∧ w.grownBy w' (some bl) := tick_big h hgood (by omega)
end Go.Proofs.Ytkndjjceijfdgaa.PAll
