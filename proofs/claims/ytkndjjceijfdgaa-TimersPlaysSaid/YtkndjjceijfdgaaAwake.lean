/- The document's examples: awake is true. -/
import Derived.Test.YtkndjjceijfdgaaTick2
import Derived.Deep.RegionHeld3
namespace Go.Proofs.Ytkndjjceijfdgaa.PAll
open Go.RowKit Go.Proofs.YtkndjjceijfdgaaW.PrintWords Go.Proofs.YtkndjjceijfdgaaW.PrintLast Go.Proofs.YtkndjjceijfdgaaW.PrintMore Go.Proofs.YtkndjjceijfdgaaM
set_option linter.unusedVariables false
set_option linter.unusedSimpArgs false
variable {w wi wj : World} {b bl bh : Nat} {T T' : List (S36 × Int)} {Hd Hd' : List Int}
/-- A table that was made behind w stands in wi. -/
def St (w : World) (b bl bh : Nat) (T : List (S36 × Int)) (Hd : List Int) (wi : World) : Prop := TAt wi b bl bh T Hd ∧ w.heap.size ≤ b ∧ w.heap.size ≤ bl ∧ w.heap.size ≤ bh
theorem St.below (h : St w b bl bh T Hd wi) (hb : Below wi.heap.size wi wj) : St w b bl bh T Hd wj := ⟨h.1.below hb, h.2⟩
theorem St.turn (h : St w b bl bh T Hd wi) (h' : TAt wj b bl bh T' Hd') : St w b bl bh T' Hd' wj := ⟨h', h.2⟩
/-- A row of keys of nobody else's. -/
def Row (wi : World) (bl bh : Nat) (x : Value) (xs : List S36) : Prop := ∃ base ok, Kd.R k36 36 wi base ok x xs ∧ some bl ≠ x.ownBlock ∧ some bh ≠ x.ownBlock
theorem Row.below {x : Value} {xs : List S36} (h : Row wi bl bh x xs) (hb : Below wi.heap.size wi wj) : Row wj bl bh x xs := by
  obtain ⟨base, ok, h, h1, h2⟩ := h
  exact ⟨base, ok, Kd.R_below h hb, h1, h2⟩
theorem Row.grown {x : Value} {xs : List S36} (h : Row wi bl bh x xs) (hg : wi.grownBy wj (some bl)) : Row wj bl bh x xs := by
  obtain ⟨base, ok, h, h1, h2⟩ := h
  exact ⟨base, ok, Kd.R_grown2 h rfl hg (fun k hk => by cases hk; exact h1), h1, h2⟩
theorem Row.slice {x : Value} {xs : List S36} (h : Row wi bl bh x xs) (hn : xs ≠ []) : ∃ g cap, x = .slice (some ⟨g, 0, none⟩) xs.length cap ∧ ∀ i k, xs[i]? = some k →
    wi.cell? ⟨g, i * 5, none⟩ = some (.int .i64 k.f0) ∧ wi.cell? ⟨g, i * 5 + 1, none⟩ = some (.int .i64 k.f1.f0) ∧ wi.cell? ⟨g, i * 5 + 2, none⟩ = some (.int .i64 k.f1.f1) ∧ wi.cell? ⟨g, i * 5 + 3, none⟩ = some (.int .i64 k.f2) ∧ wi.cell? ⟨g, i * 5 + 4, none⟩ = some (.int .i64 k.f3) := by
  obtain ⟨base, ok, h, _⟩ := h
  rcases own_form h with ⟨_, rfl⟩ | ⟨g, cap, rfl⟩
  · exact absurd rfl hn
  · refine ⟨g, cap, rfl, fun i k hk => ?_⟩
    have hH := holds36 h
    have hi : i < xs.length := (List.getElem?_eq_some_iff.1 hk).1
    have e1 : xs.toArray[i]! = k := by
      rw [List.getElem?_eq_getElem hi] at hk
      simp only [List.getElem!_toArray, List.getElem!_eq_getElem?_getD, List.getElem?_eq_getElem hi, Option.getD_some]
      exact Option.some.inj hk
    have hc : ∀ c, c < 5 → wi.cell? ⟨g, 0 + i * 5 + c, none⟩ = some (encK k)[c]! := fun c hc => by
      have := (Go.Sort.HoldsK.cell (i := i) (c := c) hH (by simpa using hi) hc).1
      rw [e1] at this
      simpa using this
    refine ⟨?_, ?_, ?_, ?_, ?_⟩
    · have := hc 0 (by omega); rw [Nat.zero_add] at this; exact this
    · have := hc 1 (by omega); rw [Nat.zero_add] at this; exact this
    · have := hc 2 (by omega); rw [Nat.zero_add] at this; exact this
    · have := hc 3 (by omega); rw [Nat.zero_add] at this; exact this
    · have := hc 4 (by omega); rw [Nat.zero_add] at this; exact this
theorem sortK_id {xs : List S36} (h : xs.Pairwise KLt) : sortK xs = xs := by
  refine (sortK_perm xs).eq_of_pairwise (le := fun x y => ¬ KLt y x) ?_ (sortK_sorted xs) (h.imp (fun {a c} hac => by unfold KLt at *; omega))
  intro a c _ _ h1 h2
  exact totK a c ((kltB_false _ _).2 h2) ((kltB_false _ _).2 h1)
theorem tick_st (h : St w b bl bh T Hd wi) (hgood : goodT T) (hroom : T.length < 2147483648) {xs : List S36} (hxs : sortK (outT Hd T) = xs) {T' : List (S36 × Int)} (hT : tickT Hd T = T') :
    Calls Try.prog 19 #[.pointer (some ⟨b, 0, none⟩)] wi fun e w' => ∃ x, e = .returned x ∧ Row w' bl bh x xs ∧ St w b bl bh T' Hd w' ∧ wi.grownBy w' (some bl) := by
  have hlt := h.1.lt
  refine (tick_any h.1 hgood hroom).mono ?_
  rintro e w' ⟨x, rfl, hR, hTA, hg⟩
  rw [hxs] at hR
  rw [hT] at hTA
  refine ⟨x, rfl, ⟨_, _, hR, fun e => ?_, fun e => ?_⟩, h.turn hTA, hg⟩
  · have := hR.1 _ e.symm; omega
  · have := hR.1 _ e.symm; omega
theorem start_st (h : St w b bl bh T Hd wi) (k : S36) (hk : WK k) (n : Int) (hr : T.length < maxLen) {e0 : Int} (he : startE k n = e0) {T' : List (S36 × Int)} (hT : startT T k n = T') :
    Calls Try.prog 12 #[.pointer (some ⟨b, 0, none⟩), kv k, .int .i64 n] wi fun e w' => e = .returned (.int .i64 e0) ∧ St w b bl bh T' Hd w' ∧ wi.grownBy w' (some bl) := by
  subst he hT
  refine (start_any h.1 k hk n hr).mono ?_
  rintro e w' ⟨rfl, hTA, hg⟩
  exact ⟨rfl, h.turn hTA, hg⟩
def ka : S36 := ⟨1, ⟨1, 1⟩, 3, 12⟩
def kb : S36 := ⟨1, ⟨1, 1⟩, 1, 5⟩
def kc : S36 := ⟨2, ⟨2, 1⟩, 4, 0⟩
theorem ea : startE ka 2 = 0 := by decide
theorem eb : startE kb 2 = 0 := by decide
theorem ec : startE kc 1 = 0 := by decide
theorem ta : startT [] ka 2 = [(ka, 2)] := by unfold startT; rw [ea, if_pos rfl]; rfl
theorem tb : startT [(ka, 2)] kb 2 = [(kb, 2), (ka, 2)] := by unfold startT; rw [eb, if_pos rfl]; decide
theorem tc : startT [(kb, 2), (ka, 2)] kc 1 = [(kc, 1), (kb, 2), (ka, 2)] := by unfold startT; rw [ec, if_pos rfl]; decide
theorem td : tickT [] [(kc, 1), (kb, 2), (ka, 2)] = [(kb, 1), (ka, 1)] := by decide
theorem te : sortK (outT [] [(kc, 1), (kb, 2), (ka, 2)]) = [kc] := by
  rw [show outT [] [(kc, 1), (kb, 2), (ka, 2)] = [kc] by decide]
  exact sortK_id (by simp)
theorem tf : sortK (outT [] [(kb, 1), (ka, 1)]) = [kb, ka] := by
  rw [show outT [] [(kb, 1), (ka, 1)] = [kb, ka] by decide]
  exact sortK_id (by simp [KLt, kb, ka])
theorem wa : WK ka := ⟨by unfold W64; decide, by unfold W64; decide, by unfold W64; decide, by unfold W64; decide, by unfold W64; decide⟩
theorem wb : WK kb := ⟨by unfold W64; decide, by unfold W64; decide, by unfold W64; decide, by unfold W64; decide, by unfold W64; decide⟩
theorem wc : WK kc := ⟨by unfold W64; decide, by unfold W64; decide, by unfold W64; decide, by unfold W64; decide, by unfold W64; decide⟩
theorem ga1 : goodT [(kc, 1), (kb, 2), (ka, 2)] := by
  intro p hp
  simp only [List.mem_cons, List.not_mem_nil, or_false] at hp
  rcases hp with rfl | rfl | rfl
  · exact ⟨wc, by decide, by decide⟩
  · exact ⟨wb, by decide, by decide⟩
  · exact ⟨wa, by decide, by decide⟩
theorem ga2 : goodT [(kb, 1), (ka, 1)] := by
  intro p hp
  simp only [List.mem_cons, List.not_mem_nil, or_false] at hp
  rcases hp with rfl | rfl
  · exact ⟨wb, by decide, by decide⟩
  · exact ⟨wa, by decide, by decide⟩
theorem step_call {P : Program} {ops : Array Oper} {o : Oper} {a : Act} {w : World} {K : Act → World → Prop} {Q : Exit → Act → World → Prop} {E : Prop} (hw : Region.wanted o (yielded ops a.tmps) = true)
    (f : FuncId) (gs : List Operand) (ats : Array TypeId) (hop : o.op = .call { callee := .value (.func f), args := gs.toArray, argTypes := ats }) (vals : List Value) (hv : gs.map a.eval = vals) (hen : ∀ args w, (callFunc f args).run P w = .ok (.enter f args) w) (v : Value)
    (hc : Calls P f vals.toArray w fun e w' => e = .returned v ∧ Below w.heap.size w w') (h : ∀ w', Below w.heap.size w w' → K (a.put o.dst v) w') :
    if Region.wanted o (yielded ops a.tmps) = true then Oper.wp P o a w K Q else E := by
  subst hv
  rw [if_pos hw]
  have ef : a.eval (.func f) = .func (.func f) #[] #[] := rfl
  have e1 : execOp a.eval o = callFunc f (gs.map a.eval).toArray := by
    unfold execOp
    simp [hop, resolve, Deferred.ofValue, invoke, ef]
  unfold Oper.wp
  rw [e1, hen]
  show Calls P f (gs.map a.eval).toArray w _
  refine hc.mono ?_
  rintro e w' ⟨rfl, hb⟩
  exact h w' hb
theorem en28 : ∀ args w, (callFunc 28 args).run Try.prog w = .ok (.enter 28 args) w := enters_of Try.func28 (by kernel_rfl) rfl
theorem keep_cell {wk wk' : World} (hb : Below wk.heap.size wk wk') {a : Addr} {v : Value} (h : wk.cell? a = some v) : wk'.cell? a = some v := (hb.cell (World.block_lt_of_cell? wk a h)).trans h
theorem key_ka (w : World) : Calls Try.prog 28 #[.int .i64 1, .int .i64 3, .int .i64 12] w fun e w' => e = .returned (.agg #[.int .i64 1, .int .i64 1, .int .i64 1, .int .i64 3, .int .i64 12]) ∧ Below w.heap.size w w' := lanternlaw10_key.calls 1 3 12 _ _ _ _ _ w rfl
theorem key_kb (w : World) : Calls Try.prog 28 #[.int .i64 1, .int .i64 1, .int .i64 5] w fun e w' => e = .returned (.agg #[.int .i64 1, .int .i64 1, .int .i64 1, .int .i64 1, .int .i64 5]) ∧ Below w.heap.size w w' := lanternlaw10_key.calls 1 1 5 _ _ _ _ _ w rfl
theorem key_kc (w : World) : Calls Try.prog 28 #[.int .i64 2, .int .i64 4, .int .i64 0] w fun e w' => e = .returned (.agg #[.int .i64 2, .int .i64 2, .int .i64 1, .int .i64 4, .int .i64 0]) ∧ Below w.heap.size w w' := lanternlaw10_key.calls 2 4 0 _ _ _ _ _ w rfl
set_option maxRecDepth 100000 in
set_option maxHeartbeats 4000000 in
theorem awake_any (w : World) : Calls Try.prog 7 #[] w fun e w' => e = .returned (.bool true) ∧ Below w.heap.size w w' := by
  go_enter Try.func7, Try.ntmps7
  go_wp2_with (go_at_call 9; refine (new_any _).mono ?_; rintro e w1 ⟨b, bl, bh, rfl, hT, hb, g1, g2, g3⟩; have S1 := Aside0.mk (show St w b bl bh [] [] w1 from ⟨hT, g1, g2, g3⟩); have B1 := Aside0.mk hb; clear hT hb g1 g2 g3)
  go_wp2_with (go_at_call 28; refine (key_ka _).mono ?_; rintro e w2 ⟨rfl, hb⟩; have S2 := Aside0.mk (S1.out.below hb); have B2 := Aside0.mk (B1.out.trans (hb.mono B1.out.size)); clear hb)
  go_wp2_with (go_at_call 12; refine (start_st S2.out ka wa 2 (by decide) ea ta).mono ?_; rintro e w3 ⟨rfl, hs, hg⟩; have S3 := Aside0.mk hs; have B3 := Aside0.mk (B2.out.grown hg B2.out.size (fun j hj => by cases hj; exact hs.2.2.1)); clear hs hg)
  go_wp2_with (go_at_call 28; refine (key_kb _).mono ?_; rintro e w4 ⟨rfl, hb⟩; have S4 := Aside0.mk (S3.out.below hb); have B4 := Aside0.mk (B3.out.trans (hb.mono B3.out.size)); clear hb)
  go_wp2_with (go_at_call 12; refine (start_st S4.out kb wb 2 (by decide) eb tb).mono ?_; rintro e w5 ⟨rfl, hs, hg⟩; have S5 := Aside0.mk hs; have B5 := Aside0.mk (B4.out.grown hg B4.out.size (fun j hj => by cases hj; exact hs.2.2.1)); clear hs hg)
  go_wp2_with (go_at_call 28; refine (key_kc _).mono ?_; rintro e w6 ⟨rfl, hb⟩; have S6 := Aside0.mk (S5.out.below hb); have B6 := Aside0.mk (B5.out.trans (hb.mono B5.out.size)); clear hb)
  go_wp2_with (go_at_call 12; refine (start_st S6.out kc wc 1 (by decide) ec tc).mono ?_; rintro e w7 ⟨rfl, hs, hg⟩; have S7 := Aside0.mk hs; have B7 := Aside0.mk (B6.out.grown hg B6.out.size (fun j hj => by cases hj; exact hs.2.2.1)); clear hs hg)
  go_wp2_with (go_at_call 19; refine (tick_st S7.out ga1 (by decide) te td).mono ?_; rintro e w8 ⟨x, rfl, hx, hs, hg⟩; have S8 := Aside0.mk hs; have X8 := Aside0.mk hx; have B8 := Aside0.mk (B7.out.grown hg B7.out.size (fun j hj => by cases hj; exact hs.2.2.1)); clear hx hs hg)
  go_wp2_with (go_at_call 19; refine (tick_st S8.out ga2 (by decide) tf rfl).mono ?_; rintro e w9 ⟨y, rfl, hy, hs, hg⟩; have S9 := Aside0.mk hs; have X9 := Aside0.mk (X8.out.grown hg); have Y9 := Aside0.mk hy; have B9 := Aside0.mk (B8.out.grown hg B8.out.size (fun j hj => by cases hj; exact hs.2.2.1)); clear hy hs hg)
  obtain ⟨gx, cx, ex, hx⟩ := X9.out.slice (by simp)
  change x = .slice (some ⟨gx, 0, none⟩) 1 cx at ex
  subst ex
  obtain ⟨gy, cy, ey, hy⟩ := Y9.out.slice (by simp)
  change y = .slice (some ⟨gy, 0, none⟩) 2 cy at ey
  subst ey
  have hx0 := hx 0 kc rfl
  have hy0 := hy 0 kb rfl
  have hy1 := hy 1 ka rfl
  clear hy hx
  have c0 : w9.cell? ⟨gx, 0, none⟩ = some (.int .i64 2) := hx0.1
  have c1 : w9.cell? ⟨gx, 1, none⟩ = some (.int .i64 2) := hx0.2.1
  have c2 : w9.cell? ⟨gx, 2, none⟩ = some (.int .i64 1) := hx0.2.2.1
  have c3 : w9.cell? ⟨gx, 3, none⟩ = some (.int .i64 4) := hx0.2.2.2.1
  have c4 : w9.cell? ⟨gx, 4, none⟩ = some (.int .i64 0) := hx0.2.2.2.2
  have c5 : w9.cell? ⟨gy, 0, none⟩ = some (.int .i64 1) := hy0.1
  have c6 : w9.cell? ⟨gy, 1, none⟩ = some (.int .i64 1) := hy0.2.1
  have c7 : w9.cell? ⟨gy, 2, none⟩ = some (.int .i64 1) := hy0.2.2.1
  have c8 : w9.cell? ⟨gy, 3, none⟩ = some (.int .i64 1) := hy0.2.2.2.1
  have c9 : w9.cell? ⟨gy, 4, none⟩ = some (.int .i64 5) := hy0.2.2.2.2
  have c10 : w9.cell? ⟨gy, 5, none⟩ = some (.int .i64 1) := hy1.1
  have c11 : w9.cell? ⟨gy, 6, none⟩ = some (.int .i64 1) := hy1.2.1
  have c12 : w9.cell? ⟨gy, 7, none⟩ = some (.int .i64 1) := hy1.2.2.1
  have c13 : w9.cell? ⟨gy, 8, none⟩ = some (.int .i64 3) := hy1.2.2.2.1
  have c14 : w9.cell? ⟨gy, 9, none⟩ = some (.int .i64 12) := hy1.2.2.2.2
  have BX := Aside0.mk (show gx < w9.heap.size from World.block_lt_of_cell? w9 _ c0)
  have BY := Aside0.mk (show gy < w9.heap.size from World.block_lt_of_cell? w9 _ c5)
  clear hx0 hy0 hy1 S1 S2 S3 S4 S5 S6 S7 S8 S9 X8 X9 Y9 B1 B2 B3 B4 B5 B6 B7 B8
  go_region_held3 (fun w' => w'.cell? ⟨gx, 0, none⟩ = some (.int .i64 2) ∧ w'.cell? ⟨gx, 1, none⟩ = some (.int .i64 2) ∧ w'.cell? ⟨gx, 2, none⟩ = some (.int .i64 1) ∧ w'.cell? ⟨gx, 3, none⟩ = some (.int .i64 4) ∧ w'.cell? ⟨gx, 4, none⟩ = some (.int .i64 0) ∧ w'.cell? ⟨gy, 0, none⟩ = some (.int .i64 1) ∧ w'.cell? ⟨gy, 1, none⟩ = some (.int .i64 1) ∧ w'.cell? ⟨gy, 2, none⟩ = some (.int .i64 1) ∧ w'.cell? ⟨gy, 3, none⟩ = some (.int .i64 1) ∧ w'.cell? ⟨gy, 4, none⟩ = some (.int .i64 5) ∧ w'.cell? ⟨gy, 5, none⟩ = some (.int .i64 1) ∧ w'.cell? ⟨gy, 6, none⟩ = some (.int .i64 1) ∧ w'.cell? ⟨gy, 7, none⟩ = some (.int .i64 1) ∧ w'.cell? ⟨gy, 8, none⟩ = some (.int .i64 3) ∧ w'.cell? ⟨gy, 9, none⟩ = some (.int .i64 12))
    (first
      | go_keep
      | (go_split_ands
         refine ⟨?_, ?_, ?_, ?_, ?_, ?_, ?_, ?_, ?_, ?_, ?_, ?_, ?_, ?_, ?_⟩ <;> exact keep_cell hkb (by assumption)))
    (first | (refine step_call ?hw 28 _ _ rfl [.int .i64 2, .int .i64 4, .int .i64 0] ?hv en28 _ (key_kc _) ?_; (case hw => rfl); (case hv => rfl); intro wk hkb) | (refine step_call ?hw 28 _ _ rfl [.int .i64 1, .int .i64 1, .int .i64 5] ?hv en28 _ (key_kb _) ?_; (case hw => rfl); (case hv => rfl); intro wk hkb) | (refine step_call ?hw 28 _ _ rfl [.int .i64 1, .int .i64 3, .int .i64 12] ?hv en28 _ (key_ka _) ?_; (case hw => rfl); (case hv => rfl); intro wk hkb))
  rename_i wk1 hk1 wk2 hk2 hH
  have HZ : Aside0 (Below w.heap.size w wk) := Aside0.mk (by
    have z1 := B9.out.drew
    have z2 := z1.trans (hk1.mono z1.size)
    have z3 := z2.trans (hk2.mono z2.size)
    exact z3.trans (hkb.mono z3.size))
  clear hH hk1 hk2 hkb c0 c1 c2 c3 c4 c5 c6 c7 c8 c9 c10 c11 c12 c13 c14
  go_wp2
  go_ret
  exact ⟨rfl, HZ.out⟩
end Go.Proofs.Ytkndjjceijfdgaa.PAll
