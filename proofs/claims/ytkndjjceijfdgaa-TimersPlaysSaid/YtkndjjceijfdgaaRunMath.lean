/- The plain law of TimersRun: what a table's timers have to do with a list of keys and of ticks left. -/
import Derived.Test.YtkndjjceijfdgaaSame
namespace Go.Proofs.Ytkndjjceijfdgaa.PAll
open Go.RowKit Go.Proofs.YtkndjjceijfdgaaW.PrintWords Go.Proofs.YtkndjjceijfdgaaW.PrintLast Go.Proofs.YtkndjjceijfdgaaW.PrintMore
set_option linter.unusedVariables false
set_option linter.unusedSimpArgs false
/-! less: it tells the order of keys -/
theorem less_step (k : Nat) (x5 x6 : List Int) (i : Nat) (hi : i < 5) (h5 : x5.length = 5) (h6 : x6.length = 5) :
    lanternlaw10_less.l0 (k + 1) x5 x6 (i : Int) = if rd x5 (i : Int) = rd x6 (i : Int) then lanternlaw10_less.l0 k x5 x6 ((i + 1 : Nat) : Int) else some (decide (rd x5 (i : Int) < rd x6 (i : Int))) := by
  simp only [lanternlaw10_less.l0]
  rw [if_pos (by omega), if_pos (by omega), if_pos (by omega), if_pos (by omega), show wrap64 ((i : Int) + 1) = ((i + 1 : Nat) : Int) by unfold wrap64; omega]
theorem less_lt {a b : S36} (h : KLt a b) : lanternlaw10_less.f 6 a.f0 a.f1.f0 a.f1.f1 a.f2 a.f3 b.f0 b.f1.f0 b.f1.f1 b.f2 b.f3 = some true := by
  unfold lanternlaw10_less.f
  have e0 := less_step 5 [a.f0, a.f1.f0, a.f1.f1, a.f2, a.f3] [b.f0, b.f1.f0, b.f1.f1, b.f2, b.f3] 0 (by decide) rfl rfl
  have e1 := less_step 4 [a.f0, a.f1.f0, a.f1.f1, a.f2, a.f3] [b.f0, b.f1.f0, b.f1.f1, b.f2, b.f3] 1 (by decide) rfl rfl
  have e2 := less_step 3 [a.f0, a.f1.f0, a.f1.f1, a.f2, a.f3] [b.f0, b.f1.f0, b.f1.f1, b.f2, b.f3] 2 (by decide) rfl rfl
  have e3 := less_step 2 [a.f0, a.f1.f0, a.f1.f1, a.f2, a.f3] [b.f0, b.f1.f0, b.f1.f1, b.f2, b.f3] 3 (by decide) rfl rfl
  have e4 := less_step 1 [a.f0, a.f1.f0, a.f1.f1, a.f2, a.f3] [b.f0, b.f1.f0, b.f1.f1, b.f2, b.f3] 4 (by decide) rfl rfl
  change lanternlaw10_less.l0 6 _ _ 0 = if a.f0 = b.f0 then lanternlaw10_less.l0 5 _ _ 1 else some (decide (a.f0 < b.f0)) at e0
  change lanternlaw10_less.l0 5 _ _ 1 = if a.f1.f0 = b.f1.f0 then lanternlaw10_less.l0 4 _ _ 2 else some (decide (a.f1.f0 < b.f1.f0)) at e1
  change lanternlaw10_less.l0 4 _ _ 2 = if a.f1.f1 = b.f1.f1 then lanternlaw10_less.l0 3 _ _ 3 else some (decide (a.f1.f1 < b.f1.f1)) at e2
  change lanternlaw10_less.l0 3 _ _ 3 = if a.f2 = b.f2 then lanternlaw10_less.l0 2 _ _ 4 else some (decide (a.f2 < b.f2)) at e3
  change lanternlaw10_less.l0 2 _ _ 4 = if a.f3 = b.f3 then lanternlaw10_less.l0 1 _ _ 5 else some (decide (a.f3 < b.f3)) at e4
  unfold KLt at h
  rw [e0]
  by_cases q0 : a.f0 = b.f0
  · rw [if_pos q0, e1]
    by_cases q1 : a.f1.f0 = b.f1.f0
    · rw [if_pos q1, e2]
      by_cases q2 : a.f1.f1 = b.f1.f1
      · rw [if_pos q2, e3]
        by_cases q3 : a.f2 = b.f2
        · rw [if_pos q3, e4]
          rw [if_neg (by omega), decide_eq_true (by omega)]
        · rw [if_neg q3, decide_eq_true (by omega)]
      · rw [if_neg q2, decide_eq_true (by omega)]
    · rw [if_neg q1, decide_eq_true (by omega)]
  · rw [if_neg q0, decide_eq_true (by omega)]
theorem less_any {a b : S36} (h : KLt a b) (w : World) : Calls Try.prog 30 #[.agg #[.int .i64 a.f0, .int .i64 a.f1.f0, .int .i64 a.f1.f1, .int .i64 a.f2, .int .i64 a.f3], .agg #[.int .i64 b.f0, .int .i64 b.f1.f0, .int .i64 b.f1.f1, .int .i64 b.f2, .int .i64 b.f3]] w fun e w' => e = .returned (.bool true) ∧ Below w.heap.size w w' :=
  lanternlaw10_less.calls 6 _ _ _ _ _ _ _ _ _ _ true w (less_lt h)
/-! held -/
def heldF (h p : Int) : Bool := (lanternlaw10_held.f h p).getD false
theorem heldF_some {h p : Int} (h1 : 1 ≤ p) (h2 : p ≤ 100) : lanternlaw10_held.f h p = some (heldF h p) := by
  unfold heldF lanternlaw10_held.f
  rw [show wrap64 (p - 1) = p - 1 by unfold wrap64; omega, if_pos (by omega)]
  rfl
theorem held_any {h p : Int} (h1 : 1 ≤ p) (h2 : p ≤ 100) (w : World) : Calls Try.prog 15 #[.int .i64 h, .int .i64 p] w fun e w' => e = .returned (.bool (heldF h p)) ∧ ∃ n, w' = w.drewN n :=
  (lanternlaw10_held.calls h p _ w (heldF_some h1 h2)).mono fun e w' ⟨he, n, hn⟩ => ⟨he, n, hn⟩
/-! A run: keys, and the ticks that each has left -/
def kAt (K : List S36) (i : Nat) : S36 := K.getD i z36
def lAt (L : List Int) (i : Nat) : Int := L.getD i 0
theorem kAt_get {K : List S36} {i : Nat} (h : i < K.length) : K[i]? = some (kAt K i) := by
  unfold kAt; rw [List.getD_eq_getElem?_getD, List.getElem?_eq_getElem h]; rfl
theorem kAt_mem {K : List S36} {i : Nat} (h : i < K.length) : kAt K i ∈ K := List.mem_of_getElem? (kAt_get h)
theorem mem_kAt {K : List S36} {k : S36} (h : k ∈ K) : ∃ i, i < K.length ∧ kAt K i = k := by
  obtain ⟨i, hi, e⟩ := List.mem_iff_getElem.1 h
  exact ⟨i, hi, by unfold kAt; rw [List.getD_eq_getElem?_getD, List.getElem?_eq_getElem hi, e]; rfl⟩
theorem kAt_inj {K : List S36} (hn : K.Nodup) {i j : Nat} (hi : i < K.length) (hj : j < K.length) (h : kAt K i = kAt K j) : i = j := by
  have h1 := kAt_get hi
  have h2 := kAt_get hj
  rw [h] at h1
  rw [← h2] at h1
  exact (List.getElem?_inj hi hn).1 h1
theorem kAt_app {K : List S36} {k : S36} {i : Nat} : kAt (K ++ [k]) i = if i < K.length then kAt K i else if i = K.length then k else z36 := by
  unfold kAt
  rw [List.getD_eq_getElem?_getD, List.getElem?_append]
  by_cases h : i < K.length
  · rw [if_pos h, if_pos h, List.getD_eq_getElem?_getD]
  · rw [if_neg h, if_neg h]
    by_cases h2 : i = K.length
    · subst h2; simp
    · rw [if_neg h2, List.getElem?_eq_none (by simp; omega)]; rfl
theorem lAt_app {L : List Int} {n : Int} {i : Nat} : lAt (L ++ [n]) i = if i < L.length then lAt L i else if i = L.length then n else 0 := by
  unfold lAt
  rw [List.getD_eq_getElem?_getD, List.getElem?_append]
  by_cases h : i < L.length
  · rw [if_pos h, if_pos h, List.getD_eq_getElem?_getD]
  · rw [if_neg h, if_neg h]
    by_cases h2 : i = L.length
    · subst h2; simp
    · rw [if_neg h2, List.getElem?_eq_none (by simp; omega)]; rfl
theorem lAt_set {L : List Int} {n : Int} {j i : Nat} (hj : j < L.length) : lAt (L.set j n) i = if i = j then n else lAt L i := by
  unfold lAt
  rw [List.getD_eq_getElem?_getD, List.getElem?_set]
  by_cases h : j = i
  · subst h; rw [if_pos rfl, if_pos hj, if_pos rfl]; rfl
  · rw [if_neg h, if_neg (fun e => h e.symm), List.getD_eq_getElem?_getD]
/-- T are those of the run that have ticks left. -/
def Match (T : List (S36 × Int)) (K : List S36) (L : List Int) : Prop := ∀ k n, (k, n) ∈ T ↔ ∃ j, j < K.length ∧ kAt K j = k ∧ lAt L j = n ∧ 0 < n
/-- What one start does to a run. -/
def Started1 (k : S36) (n : Int) (K : List S36) (L : List Int) (K' : List S36) (L' : List Int) : Prop :=
  (∃ j, j < K.length ∧ kAt K j = k ∧ K' = K ∧ L' = L.set j n) ∨ (k ∉ K ∧ K' = K ++ [k] ∧ L' = L ++ [n])
variable {T T' : List (S36 × Int)} {K K' : List S36} {L L' : List Int} {k : S36} {n : Int}
theorem mem_putT {p : S36 × Int} : p ∈ putT T k n ↔ p = (k, n) ∨ (p ∈ T ∧ p.1 ≠ k) := by
  unfold putT; rw [List.mem_cons, mem_delT]
theorem Match.start (h : Match T K L) (hl : K.length = L.length) (hK : K.Nodup) (hn : 0 < n) (hs : Started1 k n K L K' L') : Match (putT T k n) K' L' := by
  intro k2 n2
  rw [mem_putT, h]
  rcases hs with ⟨j, hj, ej, rfl, rfl⟩ | ⟨hk, rfl, rfl⟩
  · constructor
    · rintro (e | ⟨⟨i, hi, ei, el, hp⟩, hne⟩)
      · injection e with e1 e2
        subst e1 e2
        exact ⟨j, hj, ej, by rw [lAt_set (by omega), if_pos rfl], hn⟩
      · refine ⟨i, hi, ei, ?_, hp⟩
        rw [lAt_set (by omega), if_neg (fun e => hne (by subst e; exact ei.symm.trans ej))]; exact el
    · rintro ⟨i, hi, ei, el, hp⟩
      rw [lAt_set (by omega)] at el
      by_cases hij : i = j
      · subst hij
        rw [if_pos rfl] at el
        left; rw [← ei, ← el, ej]
      · rw [if_neg hij] at el
        right
        exact ⟨⟨i, hi, ei, el, hp⟩, fun e => hij (kAt_inj hK hi hj (by rw [ei, ej]; exact e))⟩
  · constructor
    · rintro (e | ⟨⟨i, hi, ei, el, hp⟩, hne⟩)
      · injection e with e1 e2
        subst e1 e2
        exact ⟨K.length, by simp, by rw [kAt_app, if_neg (by omega), if_pos rfl], by rw [lAt_app, if_neg (by omega), if_pos hl], hn⟩
      · exact ⟨i, by simp; omega, by rw [kAt_app, if_pos hi]; exact ei, by rw [lAt_app, if_pos (by omega)]; exact el, hp⟩
    · rintro ⟨i, hi, ei, el, hp⟩
      simp only [List.length_append, List.length_cons, List.length_nil] at hi
      rw [kAt_app] at ei
      rw [lAt_app] at el
      by_cases hiK : i < K.length
      · rw [if_pos hiK] at ei
        rw [if_pos (by omega)] at el
        right
        exact ⟨⟨i, hiK, ei, el, hp⟩, fun e => hk (by have := kAt_mem hiK; rw [ei] at this; exact e ▸ this)⟩
      · have : i = K.length := by omega
        rw [if_neg hiK, if_pos this] at ei
        rw [if_neg (by omega), if_pos (by omega)] at el
        left; rw [← ei, ← el]
theorem Started1.nodup (hs : Started1 k n K L K' L') (hK : K.Nodup) : K'.Nodup := by
  rcases hs with ⟨j, hj, ej, rfl, rfl⟩ | ⟨hk, rfl, rfl⟩
  · exact hK
  · rw [List.nodup_append]
    exact ⟨hK, by simp, fun a ha b hb e => by
      have : b = k := by simpa using hb
      exact hk (by rw [← this, ← e]; exact ha)⟩
theorem Started1.len (hs : Started1 k n K L K' L') (hl : K.length = L.length) : K'.length = L'.length := by
  rcases hs with ⟨j, hj, ej, rfl, rfl⟩ | ⟨hk, rfl, rfl⟩
  · simpa using hl
  · simpa using hl
/-- Ticks left: each above 0, at most 12. -/
def Pos (L : List Int) : Prop := ∀ j, j < L.length → 0 < lAt L j ∧ lAt L j ≤ 12
theorem Started1.pos (hs : Started1 k n K L K' L') (hl : K.length = L.length) (hp : Pos L) (hn : 0 < n) (hn2 : n ≤ 12) : Pos L' := by
  rcases hs with ⟨j, hj, ej, rfl, rfl⟩ | ⟨hk, rfl, rfl⟩
  · intro i hi
    rw [lAt_set (by omega)]
    split
    · exact ⟨hn, hn2⟩
    · exact hp i (by simpa using hi)
  · intro i hi
    simp only [List.length_append, List.length_cons, List.length_nil] at hi
    rw [lAt_app]
    split
    · exact hp i (by assumption)
    · rw [if_pos (by omega)]; exact ⟨hn, hn2⟩
theorem Started1.small (hs : Started1 k n K L K' L') (hk : Small k) (hK : ∀ x ∈ K, Small x) : ∀ x ∈ K', Small x := by
  rcases hs with ⟨j, hj, ej, rfl, rfl⟩ | ⟨_, rfl, rfl⟩
  · exact hK
  · intro x hx
    rcases List.mem_append.1 hx with hx | hx
    · exact hK x hx
    · have : x = k := by simpa using hx
      exact this ▸ hk
theorem Started1.peers (hs : Started1 k n K L K' L') (hk : k.f0 ≤ 3) (hK : ∀ x ∈ K, x.f0 ≤ 3) : ∀ x ∈ K', x.f0 ≤ 3 := by
  rcases hs with ⟨j, hj, ej, rfl, rfl⟩ | ⟨_, rfl, rfl⟩
  · exact hK
  · intro x hx
    rcases List.mem_append.1 hx with hx | hx
    · exact hK x hx
    · have : x = k := by simpa using hx
      exact this ▸ hk
/-- How many of the first j satisfy f. -/
def cnt (f : Nat → Bool) (j : Nat) : Nat := ((List.range j).filter f).length
theorem cnt_succ (f : Nat → Bool) (j : Nat) : cnt f (j + 1) = cnt f j + if f j then 1 else 0 := by
  unfold cnt
  rw [List.range_succ, List.filter_append, List.length_append]
  cases h : f j <;> simp [h]
theorem cnt_le (f : Nat → Bool) (j : Nat) : cnt f j ≤ j := by
  unfold cnt
  have := List.length_filter_le f (List.range j)
  rwa [List.length_range] at this
/-- Keys, once each: as many as indices. -/
theorem count_keys {A : List S36} (hA : A.Nodup) (hK : K.Nodup) (f : Nat → Bool) (h : ∀ k, k ∈ A ↔ ∃ j, j < K.length ∧ kAt K j = k ∧ f j = true) : A.length = cnt f K.length := by
  have hB : (((List.range K.length).filter f).map (kAt K)).Nodup := by
    rw [List.nodup_iff_pairwise_ne, List.pairwise_map]
    refine List.Pairwise.imp_of_mem (R := fun a b => a ≠ b) ?_ (List.nodup_range.filter f)
    intro a b ha hb hab e
    have ha' := List.mem_range.1 (List.mem_filter.1 ha).1
    have hb' := List.mem_range.1 (List.mem_filter.1 hb).1
    exact hab (kAt_inj hK ha' hb' e)
  have hp : A.Perm (((List.range K.length).filter f).map (kAt K)) := by
    refine (List.perm_ext_iff_of_nodup hA hB).2 (fun k => ?_)
    rw [h k, List.mem_map]
    constructor
    · rintro ⟨j, hj, e, hf⟩; exact ⟨j, List.mem_filter.2 ⟨List.mem_range.2 hj, hf⟩, e⟩
    · rintro ⟨j, hj, e⟩; exact ⟨j, List.mem_range.1 (List.mem_filter.1 hj).1, e, (List.mem_filter.1 hj).2⟩
  rw [hp.length_eq, List.length_map]; rfl
theorem Match.count (h : Match T K L) (hT : (keysT T).Nodup) (hK : K.Nodup) : T.length = cnt (fun j => decide (0 < lAt L j)) K.length := by
  have := count_keys (A := keysT T) hT hK (fun j => decide (0 < lAt L j)) (fun k => by
    unfold keysT
    rw [List.mem_map]
    constructor
    · rintro ⟨⟨k', n⟩, hm, rfl⟩
      obtain ⟨j, hj, e, el, hp⟩ := (h k' n).1 hm
      exact ⟨j, hj, e, by rw [el]; exact decide_eq_true hp⟩
    · rintro ⟨j, hj, e, hp⟩
      exact ⟨(k, lAt L j), (h k _).2 ⟨j, hj, e, rfl, of_decide_eq_true hp⟩, rfl⟩)
  rw [← this]; unfold keysT; rw [List.length_map]
theorem cnt_all (f : Nat → Bool) (m : Nat) (h : ∀ j, j < m → f j = true) : cnt f m = m := by
  induction m with
  | zero => rfl
  | succ m ih => rw [cnt_succ, ih (fun j hj => h j (by omega)), h m (by omega)]; simp
theorem Match.all (h : Match T K L) (hT : (keysT T).Nodup) (hK : K.Nodup) (hl : K.length = L.length) (hp : Pos L) : T.length = K.length := by
  rw [h.count hT hK]
  exact cnt_all _ _ (fun j hj => decide_eq_true (hp j (by omega)).1)
/-- One tick of a run; held: the peers that stand still. -/
def Ticked (h : Int) (K : List S36) (L L' : List Int) (m : Nat) : Prop :=
  L'.length = L.length ∧ ∀ i, i < L.length → lAt L' i = if i < m then (if heldF h (kAt K i).f0 = true then lAt L i else lAt L i - 1) else lAt L i
def outs (h : Int) (K : List S36) (L : List Int) (j : Nat) : Bool := !heldF h (kAt K j).f0 && decide (lAt L j = 1)
theorem Match.tick {Hd : List Int} {h : Int} (hm : Match T K L) (hl : K.length = L.length) (hh : ∀ j, j < K.length → ((kAt K j).f0 ∈ Hd ↔ heldF h (kAt K j).f0 = true)) (ht : Ticked h K L L' K.length) : Match (tickT Hd T) K L' := by
  intro k n
  unfold tickT
  rw [List.mem_filterMap]
  constructor
  · rintro ⟨⟨k1, n1⟩, hp, e⟩
    obtain ⟨j, hj, ek, el, hpos⟩ := (hm k1 n1).1 hp
    have h1 := ht.2 j (by omega)
    rw [if_pos hj] at h1
    unfold tick1 at e
    by_cases hd : k1.f0 ∈ Hd
    · rw [if_pos hd] at e
      cases e
      rw [if_pos ((hh j hj).1 (by rw [ek]; exact hd))] at h1
      exact ⟨j, hj, ek, by rw [h1]; exact el, hpos⟩
    · rw [if_neg hd] at e
      by_cases h2 : n1 = 1
      · rw [if_pos h2] at e; cases e
      · rw [if_neg h2] at e
        cases e
        rw [if_neg (fun c => hd (by have := (hh j hj).2 c; rwa [ek] at this))] at h1
        exact ⟨j, hj, ek, by rw [h1, el], by omega⟩
  · rintro ⟨j, hj, ek, el, hpos⟩
    have h1 := ht.2 j (by omega)
    rw [if_pos hj] at h1
    by_cases hd : heldF h (kAt K j).f0 = true
    · rw [if_pos hd] at h1
      refine ⟨(k, n), (hm k n).2 ⟨j, hj, ek, by rw [← h1]; exact el, hpos⟩, ?_⟩
      unfold tick1
      rw [if_pos (by have := (hh j hj).2 hd; rwa [ek] at this)]
    · rw [if_neg hd] at h1
      refine ⟨(k, n + 1), (hm k (n + 1)).2 ⟨j, hj, ek, by omega, by omega⟩, ?_⟩
      unfold tick1
      rw [if_neg (fun c => hd ((hh j hj).1 (by rw [ek]; exact c))), if_neg (by show ¬ n + 1 = 1; omega)]
      show some (k, n + 1 - 1) = some (k, n)
      rw [show n + 1 - 1 = n by omega]
theorem mem_outT {Hd : List Int} {k : S36} : k ∈ outT Hd T ↔ (k, 1) ∈ T ∧ k.f0 ∉ Hd := by
  unfold outT
  rw [List.mem_map]
  constructor
  · rintro ⟨⟨k', n⟩, hm, rfl⟩
    rw [List.mem_filter] at hm
    unfold runs at hm
    simp at hm
    obtain ⟨h1, h2, h3⟩ := hm
    subst h3
    exact ⟨h1, h2⟩
  · rintro ⟨h1, h2⟩
    exact ⟨(k, 1), List.mem_filter.2 ⟨h1, by unfold runs; simp [h2]⟩, rfl⟩
theorem outT_nodup {Hd : List Int} (hT : (keysT T).Nodup) : (outT Hd T).Nodup := by
  unfold outT keysT at *
  exact (List.Sublist.map _ List.filter_sublist).nodup hT
theorem Match.out {Hd : List Int} {h : Int} (hm : Match T K L) (hT : (keysT T).Nodup) (hK : K.Nodup) (hh : ∀ j, j < K.length → ((kAt K j).f0 ∈ Hd ↔ heldF h (kAt K j).f0 = true)) :
    (∀ j, j < K.length → outs h K L j = true → kAt K j ∈ sortK (outT Hd T)) ∧ (sortK (outT Hd T)).length = cnt (outs h K L) K.length := by
  have key : ∀ k, k ∈ outT Hd T ↔ ∃ j, j < K.length ∧ kAt K j = k ∧ outs h K L j = true := fun k => by
    rw [mem_outT, hm k 1]
    unfold outs
    constructor
    · rintro ⟨⟨j, hj, ek, el, _⟩, hn⟩
      refine ⟨j, hj, ek, ?_⟩
      have : heldF h (kAt K j).f0 = false := by
        cases hc : heldF h (kAt K j).f0 with
        | false => rfl
        | true => exact absurd ((hh j hj).2 hc) (by rw [ek]; exact hn)
      rw [this, el]; rfl
    · rintro ⟨j, hj, ek, ho⟩
      simp only [Bool.and_eq_true, Bool.not_eq_true', decide_eq_true_eq] at ho
      refine ⟨⟨j, hj, ek, ho.2, by omega⟩, fun c => ?_⟩
      have := (hh j hj).1 (by rw [ek]; exact c)
      rw [ho.1] at this; cases this
  refine ⟨fun j hj ho => (sortK_perm _).mem_iff.2 ((key _).2 ⟨j, hj, rfl, ho⟩), ?_⟩
  rw [(sortK_perm _).length_eq]
  exact count_keys (outT_nodup hT) hK _ key
/-- What came out stands in order. -/
theorem sort_less {xs : List S36} (hn : xs.Nodup) (i : Nat) (h : i + 1 < (sortK xs).length) : KLt ((sortK xs)[i]'(by omega)) ((sortK xs)[i + 1]) := by
  have h1 := List.pairwise_iff_getElem.1 (sortK_sorted xs) i (i + 1) (by omega) h (by omega)
  have h2 : (sortK xs).Nodup := (sortK_perm xs).nodup_iff.2 hn
  have h3 := List.pairwise_iff_getElem.1 (List.nodup_iff_pairwise_ne.1 h2) i (i + 1) (by omega) h (by omega)
  cases hc : kltB ((sortK xs)[i]'(by omega)) ((sortK xs)[i + 1]) with
  | true => exact (kltB_iff _ _).1 hc
  | false => exact absurd (totK _ _ hc ((kltB_false _ _).2 h1)) h3
end Go.Proofs.Ytkndjjceijfdgaa.PAll
