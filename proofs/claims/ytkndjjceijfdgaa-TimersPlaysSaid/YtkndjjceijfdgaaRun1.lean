/- Run: keys and ticks left in memory; what start does to it. -/
import Derived.Test.YtkndjjceijfdgaaRunMath
namespace Go.Proofs.Ytkndjjceijfdgaa.PAll
open Go.RowKit Go.Proofs.YtkndjjceijfdgaaW.PrintWords Go.Proofs.YtkndjjceijfdgaaW.PrintLast Go.Proofs.YtkndjjceijfdgaaW.PrintMore Go.Proofs.YtkndjjceijfdgaaM
set_option linter.unusedVariables false
set_option linter.unusedSimpArgs false
attribute [local go_sem high] eqA36
theorem only36 : ∀ q, q ∈ 36 :: k36.E → q = 36 := fun q hq => by
  have : q ∈ [36] := hq
  simpa using this
theorem only3 : ∀ q, q ∈ 3 :: (Kd.int .i64).E → q = 3 := fun q hq => by
  have : q ∈ [3] := hq
  simpa using this
/-- In block b a Run: its keys K, the ticks that are left L; its rows were made from B on. -/
def RAt (B : Nat) (w : World) (b : Nat) (K : List S36) (L : List Int) : Prop :=
  ∃ vk vl, w.heap[b]? = some (.cells #[vk, vl] 32 (0, 0)) ∧ B ≤ b ∧ Kd.R k36 36 w B (fun j => B ≤ j) vk K ∧ Kd.R (Kd.int .i64) 3 w B (fun j => B ≤ j) vl L ∧ K.length = L.length
variable {B b : Nat} {w w' : World} {K : List S36} {L : List Int}
theorem RAt.lt (h : RAt B w b K L) : b < w.heap.size := by
  obtain ⟨_, _, h, _⟩ := h
  exact (Array.getElem?_eq_some_iff.1 h).1
theorem RAt.len (h : RAt B w b K L) : K.length = L.length := by
  obtain ⟨_, _, _, _, _, _, h⟩ := h
  exact h
theorem RAt.below (h : RAt B w b K L) (hb : Below w.heap.size w w') : RAt B w' b K L := by
  have hl := h.lt
  obtain ⟨vk, vl, h1, h2, h3, h4, h5⟩ := h
  exact ⟨vk, vl, (hb.block b hl).trans h1, h2, Kd.R_below h3 hb, Kd.R_below h4 hb, h5⟩
theorem RAt.grown {c : Nat} (h : RAt B w b K L) (hg : w.grownBy w' (some c)) (hc : c < B) : RAt B w' b K L := by
  have hl := h.lt
  obtain ⟨vk, vl, h1, h2, h3, h4, h5⟩ := h
  exact ⟨vk, vl, (hg.block b hl (by simp; omega)).trans h1, h2, Kd.R_grown h3 hg (fun j hj e => by injection e with e; omega), Kd.R_grown h4 hg (fun j hj e => by injection e with e; omega), h5⟩
theorem form3 {x : Value} {base : Nat} {ok : Nat → Prop} {xs : List Int} (h : Kd.R (Kd.int .i64) 3 w base ok x xs) : (x = .slice none 0 0 ∧ xs = []) ∨ ∃ g cap, x = .slice (some ⟨g, 0, none⟩) xs.length cap := by
  have h' := h
  obtain ⟨hok, inner, ho, _⟩ := h
  rcases ho.2 with ⟨hv, _⟩ | ⟨g', cap', cur, hv, _⟩
  · subst hv
    have := (Kd.R_reads' h').1
    exact .inl ⟨rfl, List.length_eq_zero_iff.1 this.symm⟩
  · subst hv
    have := (Kd.R_reads' h').1
    rw [← this]
    exact .inr ⟨g', cap', rfl⟩
/-- A run's cells: a slice of keys, a slice of ticks. -/
theorem RAt.open (h : RAt B w b K L) : ∃ Ak ck Al cl, w.heap[b]? = some (.cells #[.slice Ak K.length ck, .slice Al L.length cl] 32 (0, 0)) ∧ B ≤ b ∧ Kd.R k36 36 w B (fun j => B ≤ j) (.slice Ak K.length ck) K ∧ Kd.R (Kd.int .i64) 3 w B (fun j => B ≤ j) (.slice Al L.length cl) L ∧ K.length = L.length := by
  obtain ⟨vk, vl, h1, h2, h3, h4, h5⟩ := h
  obtain ⟨Ak, ck, rfl, _⟩ := Kd.R_reads h3
  obtain ⟨Al, cl, rfl, _⟩ := Kd.R_reads h4
  exact ⟨Ak, ck, Al, cl, h1, h2, h3, h4, h5⟩
theorem RAt.rows (h : RAt B w b K L) : ∃ Ak ck, Kd.R k36 36 w B (fun j => B ≤ j) (.slice Ak K.length ck) K ∧ w.cell? ⟨b, 0, none⟩ = some (.slice Ak K.length ck) := by
  obtain ⟨Ak, ck, Al, cl, h1, h2, h3, h4, h5⟩ := h.open
  exact ⟨Ak, ck, h3, by rw [blk_cell h1 0]; rfl⟩
/-- A store of a number of ticks. -/
theorem RAt.set {Ak : Option Addr} {ck g cl : Nat} (h1 : w.heap[b]? = some (.cells #[.slice Ak K.length ck, .slice (some ⟨g, 0, none⟩) L.length cl] 32 (0, 0))) (h2 : B ≤ b) (h3 : Kd.R k36 36 w B (fun j => B ≤ j) (.slice Ak K.length ck) K) (h4 : Kd.R (Kd.int .i64) 3 w B (fun j => B ≤ j) (.slice (some ⟨g, 0, none⟩) L.length cl) L) (h5 : K.length = L.length) (j : Nat) (n : Int) (hw : Below B w' w) :
    RAt B (w.setCell ⟨g, j, none⟩ (.int .i64 n)) b K (L.set j n) ∧ Below B w' (w.setCell ⟨g, j, none⟩ (.int .i64 n)) ∧ (w.setCell ⟨g, j, none⟩ (.int .i64 n)).heap[b]? = some (.cells #[.slice Ak K.length ck, .slice (some ⟨g, 0, none⟩) L.length cl] 32 (0, 0)) := by
  obtain ⟨cells, hgc⟩ := Kd.R_typed h4 g (by simp [Value.ownBlock])
  have hgb : g ≠ b := by
    rintro rfl
    rw [h1] at hgc
    injection hgc with e
    injection e with _ e
    cases e
  have hBg : B ≤ g := h4.1 g (by simp [Value.ownBlock])
  have hput := Kd.R_put (enc := Value.int .i64) (h1 := fun _ => rfl) h4 (j : Int) n
  rw [Int.toNat_natCast] at hput
  refine ⟨⟨.slice Ak K.length ck, .slice (some ⟨g, 0, none⟩) L.length cl, (Below.heap_setCell w ⟨g, j, none⟩ _ b (fun e => hgb e.symm)).trans h1, h2, Kd.R_over h3 h4 (fun q hq e => by have := only36 q hq; omega) hput.2, hput.1, by simpa using h5⟩, ?_, (Below.heap_setCell w ⟨g, j, none⟩ _ b (fun e => hgb e.symm)).trans h1⟩
  exact hw.grown hput.2 (Nat.le_of_lt (Nat.lt_of_le_of_lt hBg (Array.getElem?_eq_some_iff.1 hgc).1)) (fun j' hj' => by injection hj' with hj'; omega)
theorem int_cell {A : Option Addr} {n : Nat} {xs : List Int} {W : World} (h : (Kd.int .i64).C W A n xs) {i : Nat} (hi : i < n) : ∃ ad, A = some ad ∧ W.cell? (ad.add i) = some (.int .i64 (lAt xs i)) := by
  obtain ⟨ad, e, hc⟩ := Kd.at_int h (i : Int) (by omega) (by omega)
  rw [Int.toNat_natCast] at hc
  refine ⟨ad, e, ?_⟩
  rw [hc]; unfold rd lAt
  rw [Int.toNat_natCast]
theorem key_cells {A : Option Addr} {n : Nat} {xs : List S36} {W : World} (h : Kd.C k36 W A n xs) {i : Nat} (hi : i < n) : ∃ ad, A = some ad ∧ W.cell? (ad.add (i * 5)) = some (.int .i64 (kAt xs i).f0) ∧ W.cell? ⟨(ad.add (i * 5)).block, (ad.add (i * 5)).off + 1, none⟩ = some (.int .i64 (kAt xs i).f1.f0) ∧ W.cell? ⟨(ad.add (i * 5)).block, (ad.add (i * 5)).off + 2, none⟩ = some (.int .i64 (kAt xs i).f1.f1) ∧ W.cell? ⟨(ad.add (i * 5)).block, (ad.add (i * 5)).off + 3, none⟩ = some (.int .i64 (kAt xs i).f2) ∧ W.cell? ⟨(ad.add (i * 5)).block, (ad.add (i * 5)).off + 4, none⟩ = some (.int .i64 (kAt xs i).f3) := by
  obtain ⟨ad, e, g⟩ := at_T36 h (i : Int) (by omega) (by omega)
  rw [Int.toNat_natCast] at g
  have : rd_T36 xs i = kAt xs i := by
    unfold rd_T36 kAt; rw [Int.toNat_natCast]
  rw [this] at g
  exact ⟨ad, e, g⟩
/-- Two keys differ. -/
theorem key_ne {a c : S36} (h : ¬ a = c) : (a.f0 == c.f0 && ((a.f1.f0 == c.f1.f0 && a.f1.f1 == c.f1.f1) && (a.f2 == c.f2 && a.f3 == c.f3))) = false := by
  cases hc : (a.f0 == c.f0 && ((a.f1.f0 == c.f1.f0 && a.f1.f1 == c.f1.f1) && (a.f2 == c.f2 && a.f3 == c.f3))) with
  | false => rfl
  | true =>
    simp at hc
    exact absurd (S36_ext hc.1 hc.2.1.1 hc.2.1.2 hc.2.2.1 hc.2.2.2) h
/-- Behind the keys' append and its store. -/
theorem rstart_key {W w5 : World} {k : S36} {Ak Al A1 : Option Addr} {ck cl n1 cp1 : Nat} (hR3 : Kd.R k36 36 W B (fun j => B ≤ j) (.slice Ak K.length ck) K) (hR4 : Kd.R (Kd.int .i64) 3 W B (fun j => B ≤ j) (.slice Al L.length cl) L) (hB : B ≤ b)
    (hR5 : Kd.R k36 36 w5 B (fun j => B ≤ j) (.slice A1 n1 cp1) (K ++ [k])) (hg5 : W.grownBy w5 (Value.slice Ak K.length ck).ownBlock) (hb5 : Below B w w5) (hc5 : w5.heap[b]? = some (.cells #[.slice Ak K.length ck, .slice Al L.length cl] 32 (0, 0))) :
    (w5.setCell ⟨b, 0, none⟩ (.slice A1 n1 cp1)).heap[b]? = some (.cells #[.slice A1 n1 cp1, .slice Al L.length cl] 32 (0, 0)) ∧ Kd.R k36 36 (w5.setCell ⟨b, 0, none⟩ (.slice A1 n1 cp1)) B (fun j => B ≤ j) (.slice A1 n1 cp1) (K ++ [k]) ∧ Kd.R (Kd.int .i64) 3 (w5.setCell ⟨b, 0, none⟩ (.slice A1 n1 cp1)) B (fun j => B ≤ j) (.slice Al L.length cl) L ∧ Below B w (w5.setCell ⟨b, 0, none⟩ (.slice A1 n1 cp1)) := by
  refine ⟨heap_setCell_same _ _ 0 _ _ _ hc5, Kd.R_set hR5 hc5 (fun q hq e => by have := only36 q hq; omega) 0 _, Kd.R_set (Kd.R_over hR4 hR3 (fun q hq e => by have := only3 q hq; omega) hg5) hc5 (fun q hq e => by have := only3 q hq; omega) 0 _, ?_⟩
  have hset : w5.grownBy (w5.setCell ⟨b, 0, none⟩ (.slice A1 n1 cp1)) (some b) := ⟨rfl, rfl, rfl, by simp, fun i _ hn => Below.heap_setCell _ _ _ _ (fun e => hn (by rw [e]))⟩
  exact hb5.grown hset (Nat.le_of_lt (Nat.lt_of_le_of_lt hB (Array.getElem?_eq_some_iff.1 hc5).1)) (fun j hj => by injection hj with hj; omega)
theorem rstart_left {W w5 : World} {n : Int} {Ak Al A1 : Option Addr} {ck cl n1 cp1 nk : Nat} (hR3 : Kd.R k36 36 W B (fun j => B ≤ j) (.slice Ak nk ck) K) (hR4 : Kd.R (Kd.int .i64) 3 W B (fun j => B ≤ j) (.slice Al L.length cl) L) (hB : B ≤ b)
    (hR5 : Kd.R (Kd.int .i64) 3 w5 B (fun j => B ≤ j) (.slice A1 n1 cp1) (L ++ [n])) (hg5 : W.grownBy w5 (Value.slice Al L.length cl).ownBlock) (hb5 : Below B w w5) (hc5 : w5.heap[b]? = some (.cells #[.slice Ak nk ck, .slice Al L.length cl] 32 (0, 0))) (hl : K.length = (L ++ [n]).length) :
    RAt B (w5.setCell ⟨b, 1, none⟩ (.slice A1 n1 cp1)) b K (L ++ [n]) ∧ Below B w (w5.setCell ⟨b, 1, none⟩ (.slice A1 n1 cp1)) := by
  refine ⟨⟨_, _, heap_setCell_same _ _ 1 _ _ _ hc5, hB, Kd.R_set (Kd.R_over hR3 hR4 (fun q hq e => by have := only36 q hq; omega) hg5) hc5 (fun q hq e => by have := only36 q hq; omega) 1 _, Kd.R_set hR5 hc5 (fun q hq e => by have := only3 q hq; omega) 1 _, hl⟩, ?_⟩
  have hset : w5.grownBy (w5.setCell ⟨b, 1, none⟩ (.slice A1 n1 cp1)) (some b) := ⟨rfl, rfl, rfl, by simp, fun i _ hn => Below.heap_setCell _ _ _ _ (fun e => hn (by rw [e]))⟩
  exact hb5.grown hset (Nat.le_of_lt (Nat.lt_of_le_of_lt hB (Array.getElem?_eq_some_iff.1 hc5).1)) (fun j hj => by injection hj with hj; omega)
set_option maxRecDepth 100000 in
set_option maxHeartbeats 4000000 in
theorem rstart_any (h : RAt B w b K L) (k : S36) (n : Int) (hB : B ≤ w.heap.size) (hlen : K.length ≤ 100000) :
    Calls Try.prog 13 #[.pointer (some ⟨b, 0, none⟩), .agg #[.int .i64 k.f0, .int .i64 k.f1.f0, .int .i64 k.f1.f1, .int .i64 k.f2, .int .i64 k.f3], .int .i64 n] w fun e w' => e = .returned (.tuple #[]) ∧ (∃ K' L', RAt B w' b K' L' ∧ Started1 k n K L K' L') ∧ Below B w w' := by
  have HW := Aside0.mk (heap_alloc_new w (.cells #[.int .i64 k.f0, .int .i64 k.f1.f0, .int .i64 k.f1.f1, .int .i64 k.f2, .int .i64 k.f3] 36))
  have HH := Aside0.mk (h.below (below_alloc (Below.refl _ _) (.cells #[.int .i64 k.f0, .int .i64 k.f1.f0, .int .i64 k.f1.f1, .int .i64 k.f2, .int .i64 k.f3] 36)))
  have HB := Aside0.mk (below_alloc (Below.refl w.heap.size w) (.cells #[.int .i64 k.f0, .int .i64 k.f1.f0, .int .i64 k.f1.f1, .int .i64 k.f2, .int .i64 k.f3] 36))
  have HBB := Aside0.mk hB
  clear h hB
  obtain ⟨Ak, ck, Al, cl, h1, h2, h3, h4, h5⟩ := HH.out.open
  have H1 := Aside0.mk h1
  have H2 := Aside0.mk h2
  have H3 := Aside0.mk h3
  have H4 := Aside0.mk h4
  have H5 := Aside0.mk h5
  clear h1 h2 h3 h4 h5
  go_enter Try.func13, Try.ntmps13
  go_wp2_with fail
  go_loopw [6] (fun i wr => ∃ (j : Nat), j ≤ K.length ∧ i = .int .i64 j ∧ Aside0 ((∀ i, i < j → ¬ kAt K i = k) ∧ Below ((w.alloc (.cells #[.int .i64 k.f0, .int .i64 k.f1.f0, .int .i64 k.f1.f1, .int .i64 k.f2, .int .i64 k.f3] 36))).heap.size (w.alloc (.cells #[.int .i64 k.f0, .int .i64 k.f1.f0, .int .i64 k.f1.f1, .int .i64 k.f2, .int .i64 k.f3] 36)) wr)) (fun i _ => K.length - (intOf i).toNat)
  case atStart => exact ⟨0, Nat.zero_le _, rfl, ⟨fun i hi => by omega, Below.refl _ _⟩⟩
  case round =>
    obtain ⟨j, hj, rfl, HN⟩ := hrel
    have hcb := (HN.out.2.block b HH.out.lt).trans H1.out
    have q0 : wr.cell? ⟨b, 0, none⟩ = some (.slice Ak K.length ck) := by rw [blk_cell hcb 0]; rfl
    have q1 : wr.cell? ⟨b, 1, none⟩ = some (.slice Al L.length cl) := by rw [blk_cell hcb 1]; rfl
    have hcw := (HN.out.2.block w.heap.size (by simp)).trans HW.out
    obtain ⟨k0, k1, k2, k3, k4⟩ := box36 hcw
    clear hcb hcw
    by_cases hlt : j < K.length
    · obtain ⟨ad, ea, p0, p1, p2, p3, p4⟩ := key_cells (Kd.C_below (Kd.R_reads' H3.out).2.2 HN.out.2) hlt
      subst ea
      by_cases he : kAt K j = k
      · have HE := Aside0.mk he
        rw [he] at p0 p1 p2 p3 p4
        clear he
        have hlt2 : j < L.length := by have := H5.out; omega
        have H42 := H4.out
        rcases form3 H42 with ⟨_, e0⟩ | ⟨g, cap, eg⟩
        · exfalso; rw [e0] at hlt2; simp at hlt2
        · injection eg with eg1 _ eg2
          subst eg1 eg2
          have hc4 := Kd.R_cell (0 : Int) (Kd.R_below H42 HN.out.2) (j : Int) (by omega) (by omega)
          rw [Int.toNat_natCast] at hc4
          obtain ⟨c4, f4⟩ := hc4
          clear H42
          go_wp2_with fail
          go_quiet (fail)
          go_wp2_with fail
          have hb := pw_below_drewN HN.out.2 nq
          have hset := RAt.set (w := wr.drewN nq) (w' := w) ((hb.block b HH.out.lt).trans H1.out) H2.out (Kd.R_below H3.out hb) (Kd.R_below H4.out hb) H5.out j n ((HB.out.trans (hb.mono HB.out.size)).mono HBB.out)
          exact bodyPost_ret (v := .tuple #[]) (by simp [results, Try.results13, go_sem]) rfl ⟨rfl, ⟨K, L.set j n, hset.1, .inl ⟨j, hlt, HE.out, rfl, rfl⟩⟩, hset.2.1⟩
      · have hne := key_ne he
        have HN2 := Aside0.mk (show ∀ i, i < j + 1 → ¬ kAt K i = k from fun i hi => by
          by_cases hij : i = j
          · subst hij; exact he
          · exact HN.out.1 i (by omega))
        clear he
        go_wp2_with fail
        go_quiet (fail)
        go_wp2_with fail
        go_roundw
        case rel => exact ⟨j + 1, by omega, by go_num, ⟨HN2.out, pw_below_drewN HN.out.2 nq⟩⟩
        case measure => simp [intOf]; omega
    · have HK := Aside0.mk (show k ∉ K from fun hk => by
        obtain ⟨i, hi, e⟩ := mem_kAt hk
        exact HN.out.1 i (by omega) e)
      have HB3 := Aside0.mk (show Below B w wr.drew from ((HB.out.trans (HN.out.2.mono HB.out.size)).mono HBB.out).drew)
      have HR3 := Aside0.mk (Kd.R_below (Kd.R_below H3.out HN.out.2) (w1 := wr.drew) (Below.refl _ _).drew)
      have HR4 := Aside0.mk (Kd.R_below (Kd.R_below H4.out HN.out.2) (w1 := wr.drew) (Below.refl _ _).drew)
      have HC := Aside0.mk (show wr.drew.heap[b]? = _ from (HN.out.2.block b HH.out.lt).trans H1.out)
      have HLE := Aside0.mk (show B ≤ wr.drew.heap.size from Nat.le_trans HBB.out HB3.out.size)
      have HL1 := Aside0.mk (show (K.length + 1) * 40 ≤ 140737488355328 by omega)
      have HL2 := Aside0.mk (show (L.length + 1) * 8 ≤ 140737488355328 by have := H5.out; omega)
      have hcx := (below_alloc (Below.refl wr.heap.size wr) (.cells #[.int .i64 k.f0, .int .i64 k.f1.f0, .int .i64 k.f1.f1, .int .i64 k.f2, .int .i64 k.f3] 36)).block b (Array.getElem?_eq_some_iff.1 HC.out).1
      have x1 : ((wr.alloc (.cells #[.int .i64 k.f0, .int .i64 k.f1.f0, .int .i64 k.f1.f1, .int .i64 k.f2, .int .i64 k.f3] 36))).cell? ⟨b, 0, none⟩ = some (.slice Ak K.length ck) := by rw [blk_cell (hcx.trans HC.out) 0]; rfl
      clear hcx
      go_wp2_with fail
      go_region_law (
        refine Kd.R_append_step k36 (w0 := w) (W := wr.drew) B rfl (.tmp 36) (.tmp 38) 30 36 (.agg #[.int .i64 0, .int .i64 0, .int .i64 0, .int .i64 0, .int .i64 0]) 40 rfl Try.underlying30 info36 rfl (by decide) (by decide) (.slice Ak K.length ck) K k [.int .i64 k.f0, .int .i64 k.f1.f0, .int .i64 k.f1.f1, .int .i64 k.f2, .int .i64 k.f3] (fun j => B ≤ j) (fun _ => False) (by simp [Act.eval, Act.put]) (by simp [Act.eval, Act.put]) (k36_mkM _ _ _ k) (fun _ hk => hk.elim) (fun j hj => Nat.le_trans HLE.out hj) HR3.out HB3.out HLE.out HL1.out ?_
        intro v1 w5 hR5 hb5 hg5 hat5
        obtain ⟨A1, cp1, rfl⟩ := Kd.R_slice hR5
        have hne := Kd.R_ne HR3.out HC.out (by decide)
        have hc5 := (hg5.block b (Array.getElem?_eq_some_iff.1 HC.out).1 hne).trans HC.out
        have y0 : w5.cell? ⟨b, 0, none⟩ = some (.slice Ak K.length ck) := by rw [blk_cell hc5 0]; rfl
        have f0 := blk_frozen hc5 0
        have HR5 := Aside0.mk hR5
        have HG5 := Aside0.mk hg5
        have HC5 := Aside0.mk hc5
        have HB5 := Aside0.mk hb5
        clear hR5 hb5 hg5 hat5 hc5 hne)
      all_goals
        clear q0 q1 k0 k1 k2 k3 k4 x1 y0 f0
        obtain ⟨W6, hW6⟩ : ∃ W6, W6 = w5.setCell ⟨b, 0, none⟩ (.slice A1 (K.length + 1) cp1) := ⟨_, rfl⟩
        have hR5 := HR5.out
        rw [List.length_append, List.length_cons, List.length_nil, Nat.zero_add] at hR5
        have hk := rstart_key HR3.out HR4.out H2.out hR5 HG5.out HB5.out HC5.out
        change (_ : World) = _ at hW6
        rw [← hW6] at hk ⊢
        clear hW6 hR5 HR5 HG5 HB5 HC5
        obtain ⟨hc6, hr6, hl6, hb6⟩ := hk
        have z1 : W6.cell? ⟨b, 1, none⟩ = some (.slice Al L.length cl) := by rw [blk_cell hc6 1]; rfl
        have hlt6 := (Array.getElem?_eq_some_iff.1 hc6).1
        have hcx := (below_alloc (Below.refl W6.heap.size W6) (.cells #[.int .i64 n] 3)).block b hlt6
        have x1 : (W6.alloc (.cells #[.int .i64 n] 3)).cell? ⟨b, 1, none⟩ = some (.slice Al L.length cl) := by rw [blk_cell (hcx.trans hc6) 1]; rfl
        have HC6 := Aside0.mk hc6
        have HR6 := Aside0.mk hr6
        have HL6 := Aside0.mk hl6
        have HB6 := Aside0.mk hb6
        have HLE6 := Aside0.mk (show B ≤ W6.heap.size from Nat.le_of_lt (Nat.lt_of_le_of_lt H2.out hlt6))
        clear hc6 hr6 hl6 hb6 hlt6 hcx
        go_wp2_with (
          at_builtin; refine Kd.R_append (Kd.int .i64) (w0 := w) (W := W6) B rfl (.tmp 46) (.tmp 48) 26 3 (.int .i64 0) 8 rfl Try.underlying26 info3 rfl (by decide) (by decide) (.slice Al L.length cl) L n [.int .i64 n] (fun j => B ≤ j) (fun _ => False) rfl rfl rfl (fun _ hk => hk.elim) (fun j hj => Nat.le_trans HLE6.out hj) HL6.out HB6.out HLE6.out HL2.out ?_
          intro v1 w7 hR7 hb7 hg7 hat7
          obtain ⟨A2, cp2, rfl⟩ := Kd.R_slice hR7
          have hne := Kd.R_ne HL6.out HC6.out (by decide)
          have hc7 := (hg7.block b (Array.getElem?_eq_some_iff.1 HC6.out).1 hne).trans HC6.out
          have y0 : w7.cell? ⟨b, 1, none⟩ = some (.slice Al L.length cl) := by rw [blk_cell hc7 1]; rfl
          have f0 := blk_frozen hc7 1
          have HR7 := Aside0.mk hR7
          have HG7 := Aside0.mk hg7
          have HC7 := Aside0.mk hc7
          have HB7 := Aside0.mk hb7
          clear hR7 hb7 hg7 hat7 hc7 hne)
        go_end0
        have hR7 := HR7.out
        have hk := rstart_left HR6.out HL6.out H2.out hR7 HG7.out HB7.out HC7.out (by have := H5.out; simp; omega)
        rw [List.length_append, List.length_cons, List.length_nil, Nat.zero_add] at hk
        exact ⟨rfl, ⟨K ++ [k], L ++ [n], hk.1, .inr ⟨HK.out, rfl, rfl⟩⟩, hk.2⟩
end Go.Proofs.Ytkndjjceijfdgaa.PAll
