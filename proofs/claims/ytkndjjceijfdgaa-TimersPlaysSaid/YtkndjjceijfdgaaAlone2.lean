/- Two tables of small keys side by side: what each call on them answers and leaves. -/
import Derived.Test.YtkndjjceijfdgaaAlone1
namespace Go.Proofs.Ytkndjjceijfdgaa.PAll
open Go.RowKit Go.Proofs.YtkndjjceijfdgaaW.PrintWords Go.Proofs.YtkndjjceijfdgaaW.PrintLast Go.Proofs.YtkndjjceijfdgaaW.PrintMore Go.Proofs.YtkndjjceijfdgaaM
set_option linter.unusedVariables false
set_option linter.unusedSimpArgs false
variable {w wi wj : World} {ba bla bha bb blb bhb bm : Nat} {Ta Tb : List (S36 × Int)}
/-- Two tables of small keys, nobody held; and mine's block. -/
def AJ (w : World) (ba bla bha bb blb bhb bm : Nat) (Ta Tb : List (S36 × Int)) (wi : World) : Prop :=
  Two w ba bla bha bb blb bhb Ta Tb wi ∧ wi.heap[bm]? = some (.cells #[.int .i64 9, .int .i64 9] 34 (0, 0)) ∧ w.heap.size ≤ bm ∧ bm ≠ bla ∧ bm ≠ blb ∧ Sm Ta ∧ Sm Tb
theorem AJ.below (h : AJ w ba bla bha bb blb bhb bm Ta Tb wi) (hb : Below wi.heap.size wi wj) : AJ w ba bla bha bb blb bhb bm Ta Tb wj :=
  ⟨h.1.below hb, (hb.block bm (Array.getElem?_eq_some_iff.1 h.2.1).1).trans h.2.1, h.2.2⟩
theorem AJ.lenA (h : AJ w ba bla bha bb blb bhb bm Ta Tb wi) : Ta.length ≤ 100000 := small_len h.1.1.1.nodup h.2.2.2.2.2.1
theorem AJ.lenB (h : AJ w ba bla bha bb blb bhb bm Ta Tb wi) : Tb.length ≤ 100000 := small_len h.1.2.1.1.nodup h.2.2.2.2.2.2
theorem AJ.bw (h : AJ w ba bla bha bb blb bhb bm Ta Tb wi) : Below w.heap.size w wi := h.1.2.2.2.2
theorem AJ.ltA (h : AJ w ba bla bha bb blb bhb bm Ta Tb wi) : bla < wi.heap.size := h.1.1.1.lt.2.1
theorem AJ.ltB (h : AJ w ba bla bha bb blb bhb bm Ta Tb wi) : blb < wi.heap.size := h.1.2.1.1.lt.2.1
theorem AJ.mineCells (h : AJ w ba bla bha bb blb bhb bm Ta Tb wi) : wi.cell? ⟨bm, 0, none⟩ = some (.int .i64 9) ∧ wi.cell? ⟨bm, 1, none⟩ = some (.int .i64 9) := ⟨(blk_cell h.2.1 0).trans rfl, (blk_cell h.2.1 1).trans rfl⟩
theorem maxLen_100000 : 100000 < maxLen := by unfold maxLen; omega
theorem AJ.stA {Ta' : List (S36 × Int)} (h : AJ w ba bla bha bb blb bhb bm Ta Tb wi) (hs : St w ba bla bha Ta' [] wj) (hg : wi.grownBy wj (some bla)) (hT : Sm Ta') : AJ w ba bla bha bb blb bhb bm Ta' Tb wj :=
  ⟨h.1.stepA hs hg, (hg.block bm (Array.getElem?_eq_some_iff.1 h.2.1).1 (by simpa using h.2.2.2.1)).trans h.2.1, h.2.2.1, h.2.2.2.1, h.2.2.2.2.1, hT, h.2.2.2.2.2.2⟩
theorem AJ.stB {Tb' : List (S36 × Int)} (h : AJ w ba bla bha bb blb bhb bm Ta Tb wi) (hs : St w bb blb bhb Tb' [] wj) (hg : wi.grownBy wj (some blb)) (hT : Sm Tb') : AJ w ba bla bha bb blb bhb bm Ta Tb' wj :=
  ⟨h.1.stepB hs hg, (hg.block bm (Array.getElem?_eq_some_iff.1 h.2.1).1 (by simpa using h.2.2.2.2.1)).trans h.2.1, h.2.2.1, h.2.2.2.1, h.2.2.2.2.1, h.2.2.2.2.2.1, hT⟩
theorem AJ.startA (h : AJ w ba bla bha bb blb bhb bm Ta Tb wi) {k : S36} (hk : Small k) {n : Int} (h1 : 1 ≤ n) (h2 : n ≤ 1048576) :
    Calls Try.prog 12 #[.pointer (some ⟨ba, 0, none⟩), .agg #[.int .i64 k.f0, .int .i64 k.f1.f0, .int .i64 k.f1.f1, .int .i64 k.f2, .int .i64 k.f3], .int .i64 n] wi fun e w' => e = .returned (.int .i64 0) ∧ AJ w ba bla bha bb blb bhb bm (putT Ta k n) Tb w' ∧ wi.grownBy w' (some bla) := by
  refine (start_st h.1.1 k hk.wk n (Nat.lt_of_le_of_lt h.lenA maxLen_100000) (hk.start h1 h2) (hk.startT h1 h2 Ta)).mono ?_
  rintro e w' ⟨rfl, hs, hg⟩
  exact ⟨rfl, h.stA hs hg (h.2.2.2.2.2.1.put hk h1 h2), hg⟩
theorem AJ.startB (h : AJ w ba bla bha bb blb bhb bm Ta Tb wi) {k : S36} (hk : Small k) {n : Int} (h1 : 1 ≤ n) (h2 : n ≤ 1048576) :
    Calls Try.prog 12 #[.pointer (some ⟨bb, 0, none⟩), .agg #[.int .i64 k.f0, .int .i64 k.f1.f0, .int .i64 k.f1.f1, .int .i64 k.f2, .int .i64 k.f3], .int .i64 n] wi fun e w' => e = .returned (.int .i64 0) ∧ AJ w ba bla bha bb blb bhb bm Ta (putT Tb k n) w' ∧ wi.grownBy w' (some blb) := by
  refine (start_st h.1.2.1 k hk.wk n (Nat.lt_of_le_of_lt h.lenB maxLen_100000) (hk.start h1 h2) (hk.startT h1 h2 Tb)).mono ?_
  rintro e w' ⟨rfl, hs, hg⟩
  exact ⟨rfl, h.stB hs hg (h.2.2.2.2.2.2.put hk h1 h2), hg⟩
/-- A row of keys, all made from B on. -/
def NewRow (B : Nat) (wi : World) (x : Value) (xs : List S36) : Prop := Kd.R k36 36 wi B (fun k => B ≤ k) x xs
theorem NewRow.below {B : Nat} {x : Value} {xs : List S36} (h : NewRow B wi x xs) (hb : Below wi.heap.size wi wj) : NewRow B wj x xs := Kd.R_below h hb
theorem NewRow.grown {B b : Nat} {x : Value} {xs : List S36} (h : NewRow B wi x xs) (hb : b < B) (hg : wi.grownBy wj (some b)) : NewRow B wj x xs :=
  Kd.R_grown h hg (fun k hk e => by injection e with e; omega)
theorem tick_new {b bl bh : Nat} {T : List (S36 × Int)} {Hd : List Int} (h : TAt wi b bl bh T Hd) (hgood : goodT T) (hroom : T.length < 2147483648) :
    Calls Try.prog 19 #[.pointer (some ⟨b, 0, none⟩)] wi fun e w' => ∃ x, e = .returned x ∧ NewRow wi.heap.size w' x (sortK (outT Hd T)) ∧ TAt w' b bl bh (tickT Hd T) Hd ∧ wi.grownBy w' (some bl) := by
  refine (tick_any h hgood hroom).mono ?_
  rintro e w' ⟨x, rfl, hR, hTA, hg⟩
  exact ⟨x, rfl, Kd.R_mono (Kd.R_lower hR (by omega)) (fun k hk => by omega), hTA, hg⟩
theorem AJ.tickA (h : AJ w ba bla bha bb blb bhb bm Ta Tb wi) :
    Calls Try.prog 19 #[.pointer (some ⟨ba, 0, none⟩)] wi fun e w' => ∃ x, e = .returned x ∧ NewRow wi.heap.size w' x (sortK (outT [] Ta)) ∧ AJ w ba bla bha bb blb bhb bm (tickT [] Ta) Tb w' ∧ wi.grownBy w' (some bla) := by
  refine (tick_new h.1.1.1 h.2.2.2.2.2.1.good (by have := h.lenA; omega)).mono ?_
  rintro e w' ⟨x, rfl, hR, hTA, hg⟩
  exact ⟨x, rfl, hR, h.stA (h.1.1.turn hTA) hg h.2.2.2.2.2.1.tick, hg⟩
theorem AJ.tickB (h : AJ w ba bla bha bb blb bhb bm Ta Tb wi) :
    Calls Try.prog 19 #[.pointer (some ⟨bb, 0, none⟩)] wi fun e w' => ∃ x, e = .returned x ∧ NewRow wi.heap.size w' x (sortK (outT [] Tb)) ∧ AJ w ba bla bha bb blb bhb bm Ta (tickT [] Tb) w' ∧ wi.grownBy w' (some blb) := by
  refine (tick_new h.1.2.1.1 h.2.2.2.2.2.2.good (by have := h.lenB; omega)).mono ?_
  rintro e w' ⟨x, rfl, hR, hTA, hg⟩
  exact ⟨x, rfl, hR, h.stB (h.1.2.1.turn hTA) hg h.2.2.2.2.2.2.tick, hg⟩
theorem AJ.stopB (h : AJ w ba bla bha bb blb bhb bm Ta Tb wi) {k : S36} (hk : WK k) :
    Calls Try.prog 22 #[.pointer (some ⟨bb, 0, none⟩), .agg #[.int .i64 k.f0, .int .i64 k.f1.f0, .int .i64 k.f1.f1, .int .i64 k.f2, .int .i64 k.f3]] wi fun e w' => e = .returned (.bool (decide (k ∈ keysT Tb))) ∧ AJ w ba bla bha bb blb bhb bm Ta (delT Tb k) w' ∧ wi.grownBy w' (some blb) := by
  refine (stop_any h.1.2.1.1 k hk).mono ?_
  rintro e w' ⟨rfl, hTA, hg⟩
  exact ⟨rfl, h.stB (h.1.2.1.turn hTA) hg (h.2.2.2.2.2.2.del k), hg⟩
theorem AJ.dropB (h : AJ w ba bla bha bb blb bhb bm Ta Tb wi) (s : S34) :
    Calls Try.prog 23 #[.pointer (some ⟨bb, 0, none⟩), .agg #[.int .i64 s.f0, .int .i64 s.f1]] wi fun e w' => e = .returned (.int .i64 (Tb.length - (dropT Tb s).length)) ∧ AJ w ba bla bha bb blb bhb bm Ta (dropT Tb s) w' ∧ wi.grownBy w' (some blb) := by
  refine (drop_any h.1.2.1.1 s).mono ?_
  rintro e w' ⟨rfl, hTA, hg⟩
  have h1 := h.lenB
  have h2 := drop_len Tb s
  exact ⟨by rw [show wrap64 ((Tb.length : Int) - (dropT Tb s).length) = (Tb.length : Int) - (dropT Tb s).length by unfold wrap64; omega], h.stB (h.1.2.1.turn hTA) hg (h.2.2.2.2.2.2.drop s), hg⟩
theorem AJ.countA (h : AJ w ba bla bha bb blb bhb bm Ta Tb wi) : Calls Try.prog 14 #[.pointer (some ⟨ba, 0, none⟩)] wi fun e w' => e = .returned (.int .i64 Ta.length) ∧ w' = wi := count_any h.1.1.1
end Go.Proofs.Ytkndjjceijfdgaa.PAll
