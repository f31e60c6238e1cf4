/- The plain law of TimersPlays: a table's timers, in whatever order, against the document's sorted list. The document's timers in memory; find, held, Count, Left, New: what each call answers. The document's timers: Start. The document's timers: Stop, Drop, Hold, Go, Tick. The document's timers: Drop, Hold, Go, Tick. The document's timers: Tick. -/
import Derived.Test.YtkndjjceijfdgaaRunMath
import Derived.Test.YtkndjjceijfdgaaAloneMath
import Derived.Test.YtkndjjceijfdgaaRun1
import Derived.StillTailTactics
namespace Go.Proofs.Ytkndjjceijfdgaa.PAll
open Go.RowKit Go.Proofs.YtkndjjceijfdgaaW.PrintWords Go.Proofs.YtkndjjceijfdgaaW.PrintLast Go.Proofs.YtkndjjceijfdgaaW.PrintMore
set_option linter.unusedVariables false
set_option linter.unusedSimpArgs false
theorem S85_ext {a b : S85} (h0 : a.f0 = b.f0) (h1 : a.f1 = b.f1) : a = b := by
  obtain ⟨a0, a1⟩ := a
  obtain ⟨b0, b1⟩ := b
  simp only at h0 h1
  subst h0 h1
  rfl
def xAt (L : List S85) (i : Nat) : S85 := L.getD i z85
theorem xAt_eq {L : List S85} {i : Nat} (h : i < L.length) : xAt L i = L[i] := by
  unfold xAt; rw [List.getD_eq_getElem?_getD, List.getElem?_eq_getElem h]; rfl
theorem xAt_mem {L : List S85} {i : Nat} (h : i < L.length) : xAt L i ∈ L := by rw [xAt_eq h]; exact List.getElem_mem h
theorem mem_xAt {L : List S85} {x : S85} (h : x ∈ L) : ∃ i, i < L.length ∧ xAt L i = x := by
  obtain ⟨i, hi, e⟩ := List.mem_iff_getElem.1 h
  exact ⟨i, hi, by rw [xAt_eq hi, e]⟩
theorem take_x {L : List S85} {i : Nat} (h : i < L.length) : L.take (i + 1) = L.take i ++ [xAt L i] := by
  rw [List.take_succ_eq_append_getElem h, xAt_eq h]
/-- In the order of keys. -/
def Ord (L : List S85) : Prop := L.Pairwise (fun a b => KLt a.f0 b.f0)
theorem klt_irrefl (a : S36) : ¬ KLt a a := by unfold KLt; omega
theorem klt_trans {a b c : S36} (h1 : KLt a b) (h2 : KLt b c) : KLt a c := by unfold KLt at *; omega
theorem klt_total {a b : S36} (h : ¬ a = b) : KLt a b ∨ KLt b a := by
  cases h1 : kltB a b with
  | true => exact .inl ((kltB_iff a b).1 h1)
  | false =>
    cases h2 : kltB b a with
    | true => exact .inr ((kltB_iff b a).1 h2)
    | false => exact absurd (totK a b h1 h2) h
theorem Ord.inj {L : List S85} (h : Ord L) {i j : Nat} (hi : i < L.length) (hj : j < L.length) (e : (xAt L i).f0 = (xAt L j).f0) : i = j := by
  rw [xAt_eq hi, xAt_eq hj] at e
  rcases Nat.lt_trichotomy i j with h1 | h1 | h1
  · have := List.pairwise_iff_getElem.1 h i j hi hj h1
    rw [e] at this; exact absurd this (klt_irrefl _)
  · exact h1
  · have := List.pairwise_iff_getElem.1 h j i hj hi h1
    rw [e] at this; exact absurd this (klt_irrefl _)
theorem Ord.keys {L : List S85} (h : Ord L) : (L.map (·.f0)).Nodup := by
  rw [List.nodup_iff_pairwise_ne, List.pairwise_map]
  exact List.Pairwise.imp (R := fun a b : S85 => KLt a.f0 b.f0) (fun {a b} hab (e : a.f0 = b.f0) => klt_irrefl b.f0 (by rw [e] at hab; exact hab)) h
theorem Ord.nodup {L : List S85} (h : Ord L) : L.Nodup :=
  List.nodup_iff_pairwise_ne.2 (List.Pairwise.imp (R := fun a b : S85 => KLt a.f0 b.f0) (fun {a b} hab (e : a = b) => klt_irrefl b.f0 (by rw [e] at hab; exact hab)) h)
theorem Ord.eq {L : List S85} (h : Ord L) {a b : S85} (ha : a ∈ L) (hb : b ∈ L) (e : a.f0 = b.f0) : a = b := by
  obtain ⟨i, hi, rfl⟩ := mem_xAt ha
  obtain ⟨j, hj, rfl⟩ := mem_xAt hb
  rw [h.inj hi hj e]
/-- T (in whatever order) and L (in order): the same timers. -/
def MR (T : List (S36 × Int)) (L : List S85) : Prop := (∀ k n, (k, n) ∈ T ↔ (⟨k, n⟩ : S85) ∈ L) ∧ Ord L
variable {T : List (S36 × Int)} {L : List S85} {k : S36} {n : Int}
theorem MR.perm (h : MR T L) (hT : (keysT T).Nodup) : (T.map fun p => (⟨p.1, p.2⟩ : S85)).Perm L := by
  have h1 : (T.map fun p => (⟨p.1, p.2⟩ : S85)).Nodup := by
    rw [List.nodup_iff_pairwise_ne, List.pairwise_map]
    have : T.Pairwise (fun a b => a.1 ≠ b.1) := by
      have := List.nodup_iff_pairwise_ne.1 hT
      unfold keysT at this
      rwa [List.pairwise_map] at this
    exact List.Pairwise.imp (fun {a b} hab e => hab (congrArg S85.f0 e)) this
  refine (List.perm_ext_iff_of_nodup h1 h.2.nodup).2 (fun x => ?_)
  rw [List.mem_map]
  constructor
  · rintro ⟨⟨a, b⟩, hm, rfl⟩; exact (h.1 a b).1 hm
  · intro hx; exact ⟨(x.f0, x.f1), (h.1 _ _).2 hx, rfl⟩
theorem MR.length (h : MR T L) (hT : (keysT T).Nodup) : T.length = L.length := by
  have := (h.perm hT).length_eq
  rwa [List.length_map] at this
theorem MR.mem_keys (h : MR T L) : k ∈ keysT T ↔ ∃ i, i < L.length ∧ (xAt L i).f0 = k := by
  unfold keysT
  rw [List.mem_map]
  constructor
  · rintro ⟨⟨k', m⟩, hm, rfl⟩
    obtain ⟨i, hi, e⟩ := mem_xAt ((h.1 _ _).1 hm)
    exact ⟨i, hi, by rw [e]⟩
  · rintro ⟨i, hi, rfl⟩
    exact ⟨((xAt L i).f0, (xAt L i).f1), (h.1 _ _).2 (xAt_mem hi), rfl⟩
/-! Start -/
theorem set_x {j i : Nat} {x : S85} (hj : j < L.length) (hi : i < L.length) : xAt (L.set j x) i = if i = j then x else xAt L i := by
  unfold xAt
  rw [List.getD_eq_getElem?_getD, List.getElem?_set]
  by_cases h : j = i
  · subst h; rw [if_pos rfl, if_pos hj, if_pos rfl]; rfl
  · rw [if_neg h, if_neg (fun e => h e.symm), List.getD_eq_getElem?_getD]
theorem MR.set (h : MR T L) {j : Nat} (hj : j < L.length) (hk : (xAt L j).f0 = k) : MR (putT T k n) (L.set j ⟨k, n⟩) := by
  have hf : ∀ i, i < L.length → (xAt (L.set j ⟨k, n⟩) i).f0 = (xAt L i).f0 := fun i hi => by
    rw [set_x hj hi]
    by_cases e : i = j
    · subst e; rw [if_pos rfl]; exact hk.symm
    · rw [if_neg e]
  constructor
  · intro k2 n2
    rw [mem_putT, h.1]
    constructor
    · rintro (e | ⟨hm, hne⟩)
      · injection e with e1 e2
        subst e1 e2
        have := xAt_mem (L := L.set j ⟨k2, n2⟩) (i := j) (by simpa using hj)
        rwa [set_x hj hj, if_pos rfl] at this
      · obtain ⟨i, hi, e⟩ := mem_xAt hm
        have := xAt_mem (L := L.set j ⟨k, n⟩) (i := i) (by simpa using hi)
        rwa [set_x hj hi, if_neg (fun e2 => hne (by subst e2; rw [e] at hk; exact hk)), e] at this
    · intro hm
      obtain ⟨i, hi, e⟩ := mem_xAt hm
      rw [List.length_set] at hi
      rw [set_x hj hi] at e
      by_cases hij : i = j
      · rw [if_pos hij] at e
        left
        injection e with e1 e2
        rw [e1, e2]
      · rw [if_neg hij] at e
        right
        refine ⟨by rw [← e]; exact xAt_mem hi, fun e2 => hij (h.2.inj hi hj ?_)⟩
        rw [e, hk]; exact e2
  · unfold Ord
    rw [List.pairwise_iff_getElem]
    intro i i' hi hi' hii
    rw [List.length_set] at hi hi'
    have h1 := hf i hi
    have h2 := hf i' hi'
    rw [xAt_eq (by simpa using hi)] at h1
    rw [xAt_eq (by simpa using hi')] at h2
    rw [h1, h2, xAt_eq hi, xAt_eq hi']
    exact List.pairwise_iff_getElem.1 h.2 i i' hi hi' hii
/-- k's timer put at its place. -/
def insS (k : S36) (n : Int) : List S85 → List S85
  | [] => [⟨k, n⟩]
  | x :: L => if kltB k x.f0 = true then ⟨k, n⟩ :: x :: L else x :: insS k n L
theorem mem_insS {x : S85} : ∀ {L : List S85}, x ∈ insS k n L ↔ x = ⟨k, n⟩ ∨ x ∈ L
  | [] => by simp [insS]
  | y :: L => by
    unfold insS
    split
    · simp
    · rw [List.mem_cons, mem_insS, List.mem_cons]
      constructor
      · rintro (h | h | h)
        · exact .inr (.inl h)
        · exact .inl h
        · exact .inr (.inr h)
      · rintro (h | h | h)
        · exact .inr (.inl h)
        · exact .inl h
        · exact .inr (.inr h)
theorem ord_insS : ∀ {L : List S85}, Ord L → (∀ x ∈ L, ¬ x.f0 = k) → Ord (insS k n L)
  | [], _, _ => by unfold insS Ord; simp
  | y :: L, h, hn => by
    unfold Ord at h
    rw [List.pairwise_cons] at h
    unfold insS
    split
    · rename_i hk
      have hk := (kltB_iff _ _).1 hk
      unfold Ord
      rw [List.pairwise_cons]
      refine ⟨fun x hx => ?_, List.pairwise_cons.2 h⟩
      rcases List.mem_cons.1 hx with rfl | hx
      · exact hk
      · exact klt_trans hk (h.1 x hx)
    · rename_i hk
      have hk : KLt y.f0 k := by
        rcases klt_total (hn y (List.mem_cons_self ..)) with h1 | h1
        · exact h1
        · exact absurd ((kltB_iff _ _).2 h1) hk
      unfold Ord
      rw [List.pairwise_cons]
      refine ⟨fun x hx => ?_, ord_insS h.2 (fun x hx => hn x (List.mem_cons_of_mem _ hx))⟩
      rcases mem_insS.1 hx with rfl | hx
      · exact hk
      · exact h.1 x hx
theorem MR.ins (h : MR T L) (hk : k ∉ keysT T) : MR (putT T k n) (insS k n L) := by
  have hn : ∀ x ∈ L, ¬ x.f0 = k := fun x hx e => hk (h.mem_keys.2 (by
    obtain ⟨i, hi, ei⟩ := mem_xAt hx
    exact ⟨i, hi, by rw [ei]; exact e⟩))
  refine ⟨fun k2 n2 => ?_, ord_insS h.2 hn⟩
  rw [mem_putT, h.1, mem_insS]
  constructor
  · rintro (e | ⟨hm, _⟩)
    · injection e with e1 e2
      subst e1 e2
      exact .inl rfl
    · exact .inr hm
  · rintro (e | hm)
    · injection e with e1 e2
      subst e1 e2
      exact .inl rfl
    · exact .inr ⟨hm, hn _ hm⟩
/-- One round of Start's loop: what was put so far, and was k's timer put? -/
def insStep (k : S36) (n : Int) (a : List S85 × Bool) (x : S85) : List S85 × Bool := if kltB k x.f0 = true ∧ a.2 = false then (a.1 ++ [⟨k, n⟩, x], true) else (a.1 ++ [x], a.2)
def insLoop (k : S36) (n : Int) (L : List S85) : List S85 × Bool := L.foldl (insStep k n) ([], false)
theorem insLoop_succ {i : Nat} (h : i < L.length) : insLoop k n (L.take (i + 1)) = insStep k n (insLoop k n (L.take i)) (xAt L i) := by
  unfold insLoop; rw [take_x h, List.foldl_append]; rfl
theorem fold_true : ∀ (L acc : List S85), L.foldl (insStep k n) (acc, true) = (acc ++ L, true)
  | [], acc => by simp
  | x :: L, acc => by
    rw [List.foldl_cons, show insStep k n (acc, true) x = (acc ++ [x], true) by unfold insStep; rw [if_neg (by simp)], fold_true L]
    simp
theorem fold_false : ∀ (L acc : List S85), (if (L.foldl (insStep k n) (acc, false)).2 = true then (L.foldl (insStep k n) (acc, false)).1 else (L.foldl (insStep k n) (acc, false)).1 ++ [⟨k, n⟩]) = acc ++ insS k n L
  | [], acc => by simp [insS]
  | x :: L, acc => by
    rw [List.foldl_cons]
    by_cases hx : kltB k x.f0 = true
    · rw [show insStep k n (acc, false) x = (acc ++ [⟨k, n⟩, x], true) by unfold insStep; rw [if_pos ⟨hx, rfl⟩], fold_true, if_pos rfl]
      unfold insS
      rw [if_pos hx]
      simp
    · rw [show insStep k n (acc, false) x = (acc ++ [x], false) by unfold insStep; rw [if_neg (fun h => hx h.1)], fold_false L]
      rw [show insS k n (x :: L) = x :: insS k n L by rw [insS, if_neg hx]]
      simp
theorem insLoop_end (k : S36) (n : Int) (L : List S85) : (if (insLoop k n L).2 = true then (insLoop k n L).1 else (insLoop k n L).1 ++ [⟨k, n⟩]) = insS k n L := by
  have := fold_false (k := k) (n := n) L []
  rw [List.nil_append] at this
  exact this
theorem insLoop_len (k : S36) (n : Int) (L : List S85) : (insLoop k n L).1.length ≤ L.length + 1 := by
  have key : ∀ (L acc : List S85) (b : Bool), (L.foldl (insStep k n) (acc, b)).1.length ≤ acc.length + L.length + (if b = true then 0 else 1) := by
    intro L
    induction L with
    | nil => intro acc b; simp
    | cons x L ih =>
      intro acc b
      rw [List.foldl_cons]
      by_cases h : kltB k x.f0 = true ∧ b = false
      · rw [show insStep k n (acc, b) x = (acc ++ [⟨k, n⟩, x], true) by unfold insStep; rw [if_pos h]]
        have := ih (acc ++ [⟨k, n⟩, x]) true
        simp only [List.length_append, List.length_cons, List.length_nil, if_true] at this ⊢
        rw [h.2]
        simp only [Bool.false_eq_true, if_false]
        omega
      · rw [show insStep k n (acc, b) x = (acc ++ [x], b) by unfold insStep; rw [if_neg h]]
        have := ih (acc ++ [x]) b
        simp only [List.length_append, List.length_cons, List.length_nil] at this ⊢
        omega
  have := key L [] false
  unfold insLoop
  simpa using this
/-! Stop, Drop -/
theorem MR.filter (h : MR T L) (f : S36 → Bool) : MR (T.filter fun p => f p.1) (L.filter fun x => f x.f0) := by
  refine ⟨fun k n => ?_, h.2.filter _⟩
  rw [List.mem_filter, List.mem_filter, h.1]
theorem MR.del (h : MR T L) (k : S36) : MR (delT T k) (L.filter fun x => !decide (x.f0 = k)) := h.filter (fun k' => !decide (k' = k))
theorem MR.drop (h : MR T L) (s : S34) : MR (dropT T s) (L.filter fun x => !isKey s x.f0) := h.filter (fun k' => !isKey s k')
/-! Tick -/
def tick1S (Hd : List Int) (x : S85) : Option S85 := if x.f0.f0 ∈ Hd then some x else if x.f1 = 1 then none else some ⟨x.f0, x.f1 - 1⟩
def tickS (Hd : List Int) (L : List S85) : List S85 := L.filterMap (tick1S Hd)
def runsS (Hd : List Int) (x : S85) : Bool := !decide (x.f0.f0 ∈ Hd) && decide (x.f1 = 1)
def outS (Hd : List Int) (L : List S85) : List S36 := (L.filter (runsS Hd)).map (·.f0)
theorem MR.tick {Hd He : List Int} (h : MR T L) (hh : ∀ m, m ∈ Hd ↔ m ∈ He) : MR (tickT Hd T) (tickS He L) := by
  constructor
  · intro k n
    unfold tickT tickS
    rw [List.mem_filterMap, List.mem_filterMap]
    constructor
    · rintro ⟨⟨k1, n1⟩, hm, e⟩
      refine ⟨⟨k1, n1⟩, (h.1 _ _).1 hm, ?_⟩
      unfold tick1 at e
      unfold tick1S
      by_cases h1 : k1.f0 ∈ Hd
      · rw [if_pos h1] at e; rw [if_pos ((hh _).1 h1)]; cases e; rfl
      · rw [if_neg h1] at e; rw [if_neg (fun c => h1 ((hh _).2 c))]
        by_cases h2 : n1 = 1
        · rw [if_pos h2] at e; cases e
        · rw [if_neg h2] at e; rw [if_neg h2]; cases e; rfl
    · rintro ⟨x, hm, e⟩
      refine ⟨(x.f0, x.f1), (h.1 _ _).2 hm, ?_⟩
      unfold tick1S at e
      unfold tick1
      by_cases h1 : x.f0.f0 ∈ He
      · rw [if_pos h1] at e; rw [if_pos ((hh _).2 h1)]; cases e; rfl
      · rw [if_neg h1] at e; rw [if_neg (fun c => h1 ((hh _).1 c))]
        by_cases h2 : x.f1 = 1
        · rw [if_pos h2] at e; cases e
        · rw [if_neg h2] at e; rw [if_neg h2]; cases e; rfl
  · unfold Ord tickS
    rw [List.pairwise_filterMap]
    refine List.Pairwise.imp ?_ h.2
    intro a b hab x hx y hy
    have key : ∀ (a x : S85), tick1S He a = some x → x.f0 = a.f0 := fun a x hx => by
      unfold tick1S at hx
      split at hx
      · cases hx; rfl
      · split at hx
        · cases hx
        · cases hx; rfl
    rw [key a x hx, key b y hy]; exact hab
theorem MR.out {Hd He : List Int} (h : MR T L) (hT : (keysT T).Nodup) (hh : ∀ m, m ∈ Hd ↔ m ∈ He) : sortK (outT Hd T) = outS He L := by
  have hO : (outS He L).Pairwise KLt := by
    unfold outS
    rw [List.pairwise_map]
    exact h.2.filter _
  have hN : (outS He L).Nodup := List.nodup_iff_pairwise_ne.2 (hO.imp (fun {a b} (hab : KLt a b) (e : a = b) => klt_irrefl b (by rw [e] at hab; exact hab)))
  have hp : (sortK (outT Hd T)).Perm (outS He L) := by
    refine (List.perm_ext_iff_of_nodup ((sortK_perm _).nodup_iff.2 (outT_nodup hT)) hN).2 (fun k => ?_)
    rw [(sortK_perm _).mem_iff, mem_outT, h.1]
    unfold outS
    rw [List.mem_map]
    constructor
    · rintro ⟨h1, h2⟩
      exact ⟨⟨k, 1⟩, List.mem_filter.2 ⟨h1, by unfold runsS; simp [← hh, h2]⟩, rfl⟩
    · rintro ⟨x, hx, rfl⟩
      rw [List.mem_filter] at hx
      unfold runsS at hx
      simp [← hh] at hx
      obtain ⟨h1, h2, h3⟩ := hx
      refine ⟨?_, h2⟩
      have : x = ⟨x.f0, 1⟩ := S85_ext rfl h3
      rw [← this]; exact h1
  refine hp.eq_of_pairwise (le := fun x y => ¬ KLt y x) ?_ (sortK_sorted _) (hO.imp (fun {a c} hac => by unfold KLt at *; omega))
  intro a c _ _ h1 h2
  exact totK a c ((kltB_false _ _).2 h2) ((kltB_false _ _).2 h1)
end Go.Proofs.Ytkndjjceijfdgaa.PAll

namespace Go.Proofs.Ytkndjjceijfdgaa.PAll
open Go.RowKit Go.Proofs.YtkndjjceijfdgaaW.PrintWords Go.Proofs.YtkndjjceijfdgaaW.PrintLast Go.Proofs.YtkndjjceijfdgaaW.PrintMore Go.Proofs.YtkndjjceijfdgaaM
set_option linter.unusedVariables false
set_option linter.unusedSimpArgs false
attribute [local go_sem high] eqA36
/-- Nothing of w's has changed but blocks of F. -/
structure Frm (w w' : World) (F : Nat → Prop) : Prop where
  os : w'.os = w.os
  tape : w'.tape = w.tape
  output : w'.output = w.output
  size : w.heap.size ≤ w'.heap.size
  block : ∀ x, x < w.heap.size → ¬ F x → w'.heap[x]? = w.heap[x]?
variable {w w' w2 : World} {g : Nat} {F F2 : Nat → Prop} {L L' : List S85} {H H' : List Int}
theorem Frm.of_below (h : Below w.heap.size w w') (F : Nat → Prop) : Frm w w' F := ⟨h.os, h.tape, h.output, h.size, fun x hx _ => h.block x hx⟩
theorem Frm.of_grown {c : Nat} (h : w.grownBy w' (some c)) (hc : F c) : Frm w w' F := ⟨h.os, h.tape, h.output, h.size, fun x hx hn => h.block x hx (fun e => hn (by injection e with e; rw [e]; exact hc))⟩
theorem Frm.trans (h : Frm w w' F) (h2 : Frm w' w2 F2) (hF : ∀ x, x < w.heap.size → F2 x → F x) : Frm w w2 F :=
  ⟨h2.os.trans h.os, h2.tape.trans h.tape, h2.output.trans h.output, Nat.le_trans h.size h2.size, fun x hx hn => (h2.block x (Nat.lt_of_lt_of_le hx h.size) (fun e => hn (hF x hx e))).trans (h.block x hx hn)⟩
theorem Frm.set (w : World) (g j : Nat) (v : Value) (hg : F g) : Frm w (w.setCell ⟨g, j, none⟩ v) F :=
  ⟨rfl, rfl, rfl, by simp, fun x _ hn => Below.heap_setCell _ _ _ _ (fun e => hn (by rw [e]; exact hg))⟩
theorem Frm.mono (h : Frm w w' F) (hF : ∀ x, x < w.heap.size → F x → F2 x) : Frm w w' F2 := ⟨h.os, h.tape, h.output, h.size, fun x hx hn => h.block x hx (fun e => hn (hF x hx e))⟩
/-- In block g the document's table: its timers L, the held peers H; its rows are blocks of F. -/
def FAt (w : World) (g : Nat) (F : Nat → Prop) (L : List S85) (H : List Int) : Prop :=
  ∃ vl vh, w.heap[g]? = some (.cells #[vl, vh] 83 (0, 0)) ∧ F g ∧ Kd.R k85 85 w 0 F vl L ∧ Kd.R (Kd.int .i64) 3 w 0 F vh H
theorem FAt.lt (h : FAt w g F L H) : g < w.heap.size := by
  obtain ⟨_, _, h, _⟩ := h
  exact (Array.getElem?_eq_some_iff.1 h).1
theorem FAt.own (h : FAt w g F L H) : F g := by
  obtain ⟨_, _, _, h, _⟩ := h
  exact h
theorem FAt.frm (h : FAt w g F L H) (hf : Frm w w' F2) (hd : ∀ x, x < w.heap.size → F x → ¬ F2 x) : FAt w' g F L H := by
  have hl := h.lt
  obtain ⟨vl, vh, h1, h2, h3, h4⟩ := h
  exact ⟨vl, vh, (hf.block g hl (hd g hl h2)).trans h1, h2, Kd.R_step h3 (fun k hk hlt => hf.block k hlt (hd k hlt hk)), Kd.R_step h4 (fun k hk hlt => hf.block k hlt (hd k hlt hk))⟩
theorem FAt.below (h : FAt w g F L H) (hb : Below w.heap.size w w') : FAt w' g F L H := h.frm (Frm.of_below hb (fun _ => False)) (fun _ _ _ h => h)
theorem FAt.mono (h : FAt w g F L H) (hF : ∀ x, x < w.heap.size → F x → F2 x) : FAt w g F2 L H := by
  have hl := h.lt
  obtain ⟨vl, vh, h1, h2, h3, h4⟩ := h
  exact ⟨vl, vh, h1, hF g hl h2, Kd.R_mono (Kd.R_bound h3) (fun k hk => hF k hk.2.2.1 hk.1), Kd.R_mono (Kd.R_bound h4) (fun k hk => hF k hk.2.2.1 hk.1)⟩
theorem FAt.open (h : FAt w g F L H) : ∃ Al cl Ah ch, w.heap[g]? = some (.cells #[.slice Al L.length cl, .slice Ah H.length ch] 83 (0, 0)) ∧ F g ∧ Kd.R k85 85 w 0 F (.slice Al L.length cl) L ∧ Kd.R (Kd.int .i64) 3 w 0 F (.slice Ah H.length ch) H := by
  obtain ⟨vl, vh, h1, h2, h3, h4⟩ := h
  obtain ⟨Al, cl, rfl, _⟩ := Kd.R_reads h3
  obtain ⟨Ah, ch, rfl, _⟩ := Kd.R_reads h4
  exact ⟨Al, cl, Ah, ch, h1, h2, h3, h4⟩
theorem x_cells {A : Option Addr} {n : Nat} {xs : List S85} {W : World} (h : Kd.C k85 W A n xs) {i : Nat} (hi : i < n) : ∃ ad, A = some ad ∧ W.cell? (ad.add (i * 6)) = some (.int .i64 (xAt xs i).f0.f0) ∧ W.cell? ⟨(ad.add (i * 6)).block, (ad.add (i * 6)).off + 1, none⟩ = some (.int .i64 (xAt xs i).f0.f1.f0) ∧ W.cell? ⟨(ad.add (i * 6)).block, (ad.add (i * 6)).off + 2, none⟩ = some (.int .i64 (xAt xs i).f0.f1.f1) ∧ W.cell? ⟨(ad.add (i * 6)).block, (ad.add (i * 6)).off + 3, none⟩ = some (.int .i64 (xAt xs i).f0.f2) ∧ W.cell? ⟨(ad.add (i * 6)).block, (ad.add (i * 6)).off + 4, none⟩ = some (.int .i64 (xAt xs i).f0.f3) ∧ W.cell? ⟨(ad.add (i * 6)).block, (ad.add (i * 6)).off + 5, none⟩ = some (.int .i64 (xAt xs i).f1) := by
  obtain ⟨ad, e, g⟩ := at_T85 h (i : Int) (by omega) (by omega)
  rw [Int.toNat_natCast] at g
  have : rd_T85 xs i = xAt xs i := by
    unfold rd_T85 xAt; rw [Int.toNat_natCast]
  rw [this] at g
  exact ⟨ad, e, g⟩
theorem rnew_any (w : World) : Calls Try.prog 24 #[] w fun e w' => ∃ g, e = .returned (.pointer (some ⟨g, 0, none⟩)) ∧ FAt w' g (fun x => w.heap.size ≤ x) [] [] ∧ Below w.heap.size w w' := by
  go_enter Try.func24, Try.ntmps24
  go_wp2
  go_ret
  exact ⟨w.heap.size, rfl, ⟨.slice none 0 0, .slice none 0 0, heap_alloc_new w _, Nat.le_refl _, Kd.R_nil _ _ _ _ _, Kd.R_nil _ _ _ _ _⟩, below_alloc (Below.refl _ _) _⟩
theorem rcount_any (h : FAt w g F L H) : Calls Try.prog 40 #[.pointer (some ⟨g, 0, none⟩)] w fun e w' => e = .returned (.int .i64 L.length) ∧ w' = w := by
  obtain ⟨Al, cl, Ah, ch, h1, _⟩ := h.open
  have q0 : w.cell? ⟨g, 0, none⟩ = some (.slice Al L.length cl) := by rw [blk_cell h1 0]; rfl
  clear h1 h
  go_enter Try.func40, Try.ntmps40
  go_wp2
  go_ret
  exact ⟨rfl, rfl⟩
/-- What find answers. -/
def FindPost (L : List S85) (k : S36) (e : Ending) : Prop := (∃ j : Nat, j < L.length ∧ (xAt L j).f0 = k ∧ e = .returned (.int .i64 j)) ∨ ((∀ i, i < L.length → ¬ (xAt L i).f0 = k) ∧ e = .returned (.int .i64 (-1)))
set_option maxRecDepth 100000 in
set_option maxHeartbeats 4000000 in
theorem find_any (h : FAt w g F L H) (k : S36) (hlen : L.length ≤ 2199023255552) :
    Calls Try.prog 46 #[.pointer (some ⟨g, 0, none⟩), .agg #[.int .i64 k.f0, .int .i64 k.f1.f0, .int .i64 k.f1.f1, .int .i64 k.f2, .int .i64 k.f3]] w fun e w' => FindPost L k e ∧ Below w.heap.size w w' := by
  have HW := Aside0.mk (heap_alloc_new w (.cells #[.int .i64 k.f0, .int .i64 k.f1.f0, .int .i64 k.f1.f1, .int .i64 k.f2, .int .i64 k.f3] 36))
  have HB := Aside0.mk (below_alloc (Below.refl w.heap.size w) (.cells #[.int .i64 k.f0, .int .i64 k.f1.f0, .int .i64 k.f1.f1, .int .i64 k.f2, .int .i64 k.f3] 36))
  have HH := Aside0.mk (h.below HB.out)
  clear h
  obtain ⟨Al, cl, Ah, ch, h1, h2, h3, h4⟩ := HH.out.open
  have H1 := Aside0.mk h1
  have H3 := Aside0.mk h3
  clear h1 h2 h3 h4
  go_enter Try.func46, Try.ntmps46
  go_wp2_with fail
  go_loopw [5] (fun i wr => ∃ (j : Nat), j ≤ L.length ∧ i = .int .i64 j ∧ Aside0 ((∀ i, i < j → ¬ (xAt L i).f0 = k) ∧ Below (w.alloc (.cells #[.int .i64 k.f0, .int .i64 k.f1.f0, .int .i64 k.f1.f1, .int .i64 k.f2, .int .i64 k.f3] 36)).heap.size (w.alloc (.cells #[.int .i64 k.f0, .int .i64 k.f1.f0, .int .i64 k.f1.f1, .int .i64 k.f2, .int .i64 k.f3] 36)) wr)) (fun i _ => L.length - (intOf i).toNat)
  case atStart => exact ⟨0, Nat.zero_le _, rfl, ⟨fun i hi => by omega, Below.refl _ _⟩⟩
  case round =>
    obtain ⟨j, hj, rfl, HN⟩ := hrel
    have hcb := (HN.out.2.block g HH.out.lt).trans H1.out
    have q0 : wr.cell? ⟨g, 0, none⟩ = some (.slice Al L.length cl) := by rw [blk_cell hcb 0]; rfl
    have hcw := (HN.out.2.block w.heap.size (by simp)).trans HW.out
    obtain ⟨k0, k1, k2, k3, k4⟩ := box36 hcw
    clear hcb hcw
    by_cases hlt : j < L.length
    · obtain ⟨ad, ea, p0, p1, p2, p3, p4, p5⟩ := x_cells (Kd.C_below (Kd.R_reads' H3.out).2.2 HN.out.2) hlt
      subst ea
      by_cases he : (xAt L j).f0 = k
      · have HE := Aside0.mk he
        rw [he] at p0 p1 p2 p3 p4
        clear he
        go_wp2_with fail
        go_quiet (fail)
        go_wp2_with fail
        go_ret
        exact ⟨.inl ⟨j, hlt, HE.out, rfl⟩, pw_below_drewN (HB.out.trans (HN.out.2.mono HB.out.size)) nq⟩
      · have hne := key_ne he
        have HN2 := Aside0.mk (show ∀ i, i < j + 1 → ¬ (xAt L i).f0 = k from fun i hi => by
          by_cases hij : i = j
          · subst hij; exact he
          · exact HN.out.1 i (by omega))
        clear he
        go_wp2_with fail
        go_quiet (fail)
        go_wp2_with fail
        go_roundw
        case rel => exact ⟨j + 1, by omega, by go_num, ⟨HN2.out, pw_below_drewN HN.out.2 nq⟩⟩
        case measure => simp [intOf]; omega
    · obtain rfl : j = L.length := by omega
      go_wp2_with fail
      go_ret
      exact ⟨.inr ⟨HN.out.1, rfl⟩, HB.out.trans (HN.out.2.mono HB.out.size)⟩
theorem find_at (h : FAt w g F L H) (ho : Ord L) {k : S36} {j : Nat} (hj : j < L.length) (hk : (xAt L j).f0 = k) (hlen : L.length ≤ 2199023255552) :
    Calls Try.prog 46 #[.pointer (some ⟨g, 0, none⟩), .agg #[.int .i64 k.f0, .int .i64 k.f1.f0, .int .i64 k.f1.f1, .int .i64 k.f2, .int .i64 k.f3]] w fun e w' => e = .returned (.int .i64 j) ∧ Below w.heap.size w w' := by
  refine (find_any h k hlen).mono ?_
  rintro e w' ⟨⟨i, hi, hk', rfl⟩ | ⟨hn, _⟩, hb⟩
  · rw [ho.inj hi hj (hk'.trans hk.symm)]; exact ⟨rfl, hb⟩
  · exact absurd hk (hn j hj)
theorem find_no (h : FAt w g F L H) {k : S36} (hn : ∀ i, i < L.length → ¬ (xAt L i).f0 = k) (hlen : L.length ≤ 2199023255552) :
    Calls Try.prog 46 #[.pointer (some ⟨g, 0, none⟩), .agg #[.int .i64 k.f0, .int .i64 k.f1.f0, .int .i64 k.f1.f1, .int .i64 k.f2, .int .i64 k.f3]] w fun e w' => e = .returned (.int .i64 (-1)) ∧ Below w.heap.size w w' := by
  refine (find_any h k hlen).mono ?_
  rintro e w' ⟨⟨i, hi, hk', rfl⟩ | ⟨_, rfl⟩, hb⟩
  · exact absurd hk' (hn i hi)
  · exact ⟨rfl, hb⟩
set_option maxRecDepth 100000 in
set_option maxHeartbeats 4000000 in
theorem rheld_any (h : FAt w g F L H) (p : Int) (hlen : H.length ≤ 2199023255552) :
    Calls Try.prog 48 #[.pointer (some ⟨g, 0, none⟩), .int .i64 p] w fun e w' => e = .returned (.bool (decide (p ∈ H))) ∧ w' = w := by
  obtain ⟨Al, cl, Ah, ch, h1, h2, h3, h4⟩ := h.open
  have q0 : w.cell? ⟨g, 1, none⟩ = some (.slice Ah H.length ch) := by rw [blk_cell h1 1]; rfl
  have H4 := Aside0.mk h4
  clear h1 h2 h3 h4 h
  go_enter Try.func48, Try.ntmps48
  go_wp2_with fail
  go_loop [5] (fun i => ∃ (j : Nat), j ≤ H.length ∧ i = .int .i64 j ∧ Aside0 (∀ i, i < j → ¬ lAt H i = p)) (fun i => H.length - (intOf i).toNat)
  case atStart => exact ⟨0, Nat.zero_le _, rfl, ⟨fun i hi => by omega⟩⟩
  case round =>
    obtain ⟨j, hj, rfl, HN⟩ := hrel
    by_cases hlt : j < H.length
    · obtain ⟨ad, ea, p0⟩ := int_cell (Kd.R_reads' H4.out).2.2 hlt
      subst ea
      by_cases he : lAt H j = p
      · have HE := Aside0.mk (show decide (p ∈ H) = true from decide_eq_true (by
          rw [← he]; unfold lAt
          rw [List.getD_eq_getElem?_getD, List.getElem?_eq_getElem hlt]
          exact List.getElem_mem _))
        rw [he] at p0
        clear he
        go_wp2_with fail
        go_ret
        exact ⟨by rw [HE.out]; rfl, rfl⟩
      · have hne : (lAt H j == p) = false := beq_eq_false_iff_ne.mpr he
        have HN2 := Aside0.mk (show ∀ i, i < j + 1 → ¬ lAt H i = p from fun i hi => by
          by_cases hij : i = j
          · subst hij; exact he
          · exact HN.out i (by omega))
        go_wp2_with fail
        go_round
        case rel => exact ⟨j + 1, by omega, by go_num, HN2⟩
        case measure => simp [intOf]; omega
    · obtain rfl : j = H.length := by omega
      have HE := Aside0.mk (show decide (p ∈ H) = false from decide_eq_false (fun hm => by
        obtain ⟨i, hi, e⟩ := List.mem_iff_getElem.1 hm
        refine HN.out i hi ?_
        unfold lAt
        rw [List.getD_eq_getElem?_getD, List.getElem?_eq_getElem hi, e]; rfl))
      go_wp2_with fail
      go_ret
      exact ⟨by rw [HE.out]; rfl, rfl⟩
theorem rleft_at (h : FAt w g F L H) (ho : Ord L) {k : S36} {j : Nat} (hj : j < L.length) (hk : (xAt L j).f0 = k) (hlen : L.length ≤ 2199023255552) :
    Calls Try.prog 39 #[.pointer (some ⟨g, 0, none⟩), .agg #[.int .i64 k.f0, .int .i64 k.f1.f0, .int .i64 k.f1.f1, .int .i64 k.f2, .int .i64 k.f3]] w fun e w' => e = .returned (.tuple #[.int .i64 (xAt L j).f1, .bool true]) ∧ Below w.heap.size w w' := by
  have HW := Aside0.mk (heap_alloc_new w (.cells #[.int .i64 k.f0, .int .i64 k.f1.f0, .int .i64 k.f1.f1, .int .i64 k.f2, .int .i64 k.f3] 36))
  have HB := Aside0.mk (below_alloc (Below.refl w.heap.size w) (.cells #[.int .i64 k.f0, .int .i64 k.f1.f0, .int .i64 k.f1.f1, .int .i64 k.f2, .int .i64 k.f3] 36))
  have HH := Aside0.mk (h.below HB.out)
  have HO := Aside0.mk ho
  have HK := Aside0.mk hk
  obtain ⟨k0, k1, k2, k3, k4⟩ := box36 HW.out
  clear h ho hk
  go_enter Try.func39, Try.ntmps39
  go_wp2_with fail
  refine (find_at HH.out HO.out hj HK.out hlen).mono ?_
  rintro e w1 ⟨rfl, hb⟩
  have HB1 := Aside0.mk (HB.out.trans (hb.mono HB.out.size))
  obtain ⟨Al, cl, Ah, ch, h1, h2, h3, h4⟩ := (HH.out.below hb).open
  have q0 : w1.cell? ⟨g, 0, none⟩ = some (.slice Al L.length cl) := by rw [blk_cell h1 0]; rfl
  obtain ⟨ad, ea, p0, p1, p2, p3, p4, p5⟩ := x_cells (Kd.R_reads' h3).2.2 hj
  subst ea
  clear h1 h2 h3 h4 hb p0 p1 p2 p3 p4
  go_wp2_with fail
  go_ret2
  exact ⟨rfl, HB1.out⟩
theorem rleft_no (h : FAt w g F L H) {k : S36} (hn : ∀ i, i < L.length → ¬ (xAt L i).f0 = k) (hlen : L.length ≤ 2199023255552) :
    Calls Try.prog 39 #[.pointer (some ⟨g, 0, none⟩), .agg #[.int .i64 k.f0, .int .i64 k.f1.f0, .int .i64 k.f1.f1, .int .i64 k.f2, .int .i64 k.f3]] w fun e w' => e = .returned (.tuple #[.int .i64 0, .bool false]) ∧ Below w.heap.size w w' := by
  have HW := Aside0.mk (heap_alloc_new w (.cells #[.int .i64 k.f0, .int .i64 k.f1.f0, .int .i64 k.f1.f1, .int .i64 k.f2, .int .i64 k.f3] 36))
  have HB := Aside0.mk (below_alloc (Below.refl w.heap.size w) (.cells #[.int .i64 k.f0, .int .i64 k.f1.f0, .int .i64 k.f1.f1, .int .i64 k.f2, .int .i64 k.f3] 36))
  have HH := Aside0.mk (h.below HB.out)
  have HN := Aside0.mk hn
  obtain ⟨k0, k1, k2, k3, k4⟩ := box36 HW.out
  clear h hn
  go_enter Try.func39, Try.ntmps39
  go_wp2_with fail
  refine (find_no HH.out HN.out hlen).mono ?_
  rintro e w1 ⟨rfl, hb⟩
  have HB1 := Aside0.mk (HB.out.trans (hb.mono HB.out.size))
  clear hb
  go_wp2_with fail
  go_ret2
  exact ⟨rfl, HB1.out⟩
end Go.Proofs.Ytkndjjceijfdgaa.PAll

namespace Go.Proofs.Ytkndjjceijfdgaa.PAll
open Go.RowKit Go.Proofs.YtkndjjceijfdgaaW.PrintWords Go.Proofs.YtkndjjceijfdgaaW.PrintLast Go.Proofs.YtkndjjceijfdgaaW.PrintMore Go.Proofs.YtkndjjceijfdgaaM
set_option linter.unusedVariables false
set_option linter.unusedSimpArgs false
attribute [local go_sem high] eqA36
variable {w w' w2 wr : World} {g : Nat} {F F2 : Nat → Prop} {L L' : List S85} {H H' : List Int}
theorem info85 : (Try.prog.info? 85).map (fun i => (i.zero, i.size, i.bytes)) = some (some (.agg #[.int .i64 0, .int .i64 0, .int .i64 0, .int .i64 0, .int .i64 0, .int .i64 0]), 6, 48) := by kernel_rfl
theorem rmay_f (k : S36) : lanternref10_may.f k.f0 k.f1.f0 k.f1.f1 k.f2 k.f3 = some (mayB k) := by
  unfold lanternref10_may.f mayB btw
  (repeat' split) <;> (congr 1; rw [Bool.eq_iff_iff]; simp; omega)
theorem rmay_any (k : S36) (w : World) : Calls Try.prog 45 #[.agg #[.int .i64 k.f0, .int .i64 k.f1.f0, .int .i64 k.f1.f1, .int .i64 k.f2, .int .i64 k.f3]] w fun e w' => e = .returned (.bool (mayB k)) ∧ Below w.heap.size w w' := lanternref10_may.calls _ _ _ _ _ _ w (rmay_f k)
theorem before_f (a b : S36) : lanternref10_Before.f a.f0 a.f1.f0 a.f1.f1 a.f2 a.f3 b.f0 b.f1.f0 b.f1.f1 b.f2 b.f3 = some (kltB a b) := by
  have h := kltB_iff a b
  generalize kltB a b = x at h
  unfold lanternref10_Before.f
  unfold KLt at h
  (repeat' split) <;> (congr 1; rw [Bool.eq_iff_iff, h]; simp; omega)
theorem before_any (a b : S36) (w : World) : Calls Try.prog 47 #[.agg #[.int .i64 a.f0, .int .i64 a.f1.f0, .int .i64 a.f1.f1, .int .i64 a.f2, .int .i64 a.f3], .agg #[.int .i64 b.f0, .int .i64 b.f1.f0, .int .i64 b.f1.f1, .int .i64 b.f2, .int .i64 b.f3]] w fun e w' => e = .returned (.bool (kltB a b)) ∧ Below w.heap.size w w' := lanternref10_Before.calls _ _ _ _ _ _ _ _ _ _ _ w (before_f a b)
/-- New rows of w's. -/
def New (w : World) (F : Nat → Prop) : Nat → Prop := fun x => F x ∨ w.heap.size ≤ x
/-- The table gets a new row of timers. -/
theorem FAt.put0 {v : Value} (h : FAt w g F L H) (hb : Below w.heap.size w wr) (hR : Kd.R k85 85 wr w.heap.size (fun x => w.heap.size ≤ x) v L') : FAt (wr.setCell ⟨g, 0, none⟩ v) g (New w F) L' H ∧ Frm w (wr.setCell ⟨g, 0, none⟩ v) F := by
  have hl := h.lt
  obtain ⟨vl, vh, h1, h2, h3, h4⟩ := h
  have hc := (hb.block g hl).trans h1
  refine ⟨⟨v, vh, heap_setCell_same _ _ 0 _ _ _ hc, .inl h2, ?_, ?_⟩, (Frm.of_below hb F).trans (Frm.set wr g 0 v h2) (fun x _ h => h)⟩
  · exact Kd.R_set (Kd.R_mono (Kd.R_lower hR (Nat.zero_le _)) (fun k hk => .inr hk)) hc (fun q hq e => by
      have : q ∈ [85] := hq
      have : q = 85 := by simpa using this
      omega) 0 v
  · exact Kd.R_set (Kd.R_mono (Kd.R_below h4 hb) (fun k hk => .inl hk)) hc (fun q hq e => by have := only3 q hq; omega) 0 v
theorem FAt.put1 {v : Value} (h : FAt w g F L H) (hb : Below w.heap.size w wr) (hR : Kd.R (Kd.int .i64) 3 wr w.heap.size (fun x => w.heap.size ≤ x) v H') : FAt (wr.setCell ⟨g, 1, none⟩ v) g (New w F) L H' ∧ Frm w (wr.setCell ⟨g, 1, none⟩ v) F := by
  have hl := h.lt
  obtain ⟨vl, vh, h1, h2, h3, h4⟩ := h
  have hc := (hb.block g hl).trans h1
  refine ⟨⟨vl, v, heap_setCell_same _ _ 1 _ _ _ hc, .inl h2, ?_, ?_⟩, (Frm.of_below hb F).trans (Frm.set wr g 1 v h2) (fun x _ h => h)⟩
  · exact Kd.R_set (Kd.R_mono (Kd.R_below h3 hb) (fun k hk => .inl hk)) hc (fun q hq e => by
      have : q ∈ [85] := hq
      have : q = 85 := by simpa using this
      omega) 1 v
  · exact Kd.R_set (Kd.R_mono (Kd.R_lower hR (Nat.zero_le _)) (fun k hk => .inr hk)) hc (fun q hq e => by have := only3 q hq; omega) 1 v
theorem form85 {x : Value} {base : Nat} {ok : Nat → Prop} {xs : List S85} (h : Kd.R k85 85 w base ok x xs) : (x = .slice none 0 0 ∧ xs = []) ∨ ∃ g cap, x = .slice (some ⟨g, 0, none⟩) xs.length cap := by
  have h' := h
  obtain ⟨hok, inner, ho, _⟩ := h
  rcases ho.2 with ⟨hv, _⟩ | ⟨g', cap', cur, hv, _⟩
  · subst hv
    have := (Kd.R_reads' h').1
    exact .inl ⟨rfl, List.length_eq_zero_iff.1 this.symm⟩
  · subst hv
    have := (Kd.R_reads' h').1
    rw [← this]
    exact .inr ⟨g', cap', rfl⟩
/-- A store of a timer's ticks. -/
theorem FAt.setLeft {gl cl : Nat} {vh : Value} (h1 : w.heap[g]? = some (.cells #[.slice (some ⟨gl, 0, none⟩) L.length cl, vh] 83 (0, 0))) (h2 : F g) (h3 : Kd.R k85 85 w 0 F (.slice (some ⟨gl, 0, none⟩) L.length cl) L) (h4 : Kd.R (Kd.int .i64) 3 w 0 F vh H) {j : Nat} (hj : j < L.length) (n : Int) :
    FAt (w.setCell ⟨gl, j * 6 + 5, none⟩ (.int .i64 n)) g F (L.set j ⟨(xAt L j).f0, n⟩) H ∧ Frm w (w.setCell ⟨gl, j * 6 + 5, none⟩ (.int .i64 n)) F ∧ w.frozen? ⟨gl, j * 6 + 5, none⟩ = false ∧ w.cell? ⟨gl, j * 6 + 5, none⟩ = some (.int .i64 (xAt L j).f1) := by
  obtain ⟨cells, hgc⟩ := Kd.R_typed h3 gl (by simp [Value.ownBlock])
  have hgb : gl ≠ g := by
    rintro rfl
    rw [h1] at hgc
    injection hgc with e
    injection e with _ e
    cases e
  have hFg : F gl := h3.1 gl (by simp [Value.ownBlock])
  obtain ⟨c, hc, hM, hcc, hfz⟩ := Kd.R_elem h3 z85 (j : Int) (by omega) (by omega)
  obtain rfl := k85_openM hM
  have hseg := Kd.R_seg (okp := fun k => F k ∧ k ≠ gl) (seg := [.int .i64 n]) (j := 5) (x' := (⟨(xAt L j).f0, n⟩ : S85)) h3 (j : Int) (by omega) (by omega) hc hcc (show 5 + 1 ≤ 6 by omega) (k85_mkM w 0 (fun k => F k ∧ k ≠ gl) (⟨(xAt L j).f0, n⟩ : S85)) (fun k hk => hk)
  rw [Int.toNat_natCast] at hseg
  have hs6 : k85.sz = 6 := rfl
  rw [hs6] at hseg
  have e1 : w.setCells gl (j * 6 + 5) [.int .i64 n] = w.setCell ⟨gl, j * 6 + 5, none⟩ (.int .i64 n) := by simp [World.setCells]
  rw [e1] at hseg
  have hcx := hcc 5 _ rfl
  have hfx := hfz 5
  rw [Int.toNat_natCast, hs6] at hcx hfx
  refine ⟨⟨.slice (some ⟨gl, 0, none⟩) L.length cl, vh, (Below.heap_setCell w ⟨gl, j * 6 + 5, none⟩ _ g (fun e => hgb e.symm)).trans h1, h2, hseg.1, Kd.R_over h4 h3 (fun q hq e => by have := only3 q hq; omega) hseg.2⟩, Frm.of_grown hseg.2 hFg, hfx, hcx⟩
theorem rstart_no (h : FAt w g F L H) (k : S36) (n : Int) (hm : mayB k = false) :
    Calls Try.prog 33 #[.pointer (some ⟨g, 0, none⟩), .agg #[.int .i64 k.f0, .int .i64 k.f1.f0, .int .i64 k.f1.f1, .int .i64 k.f2, .int .i64 k.f3], .int .i64 n] w fun e w' => e = .returned (.int .i64 100) ∧ Below w.heap.size w w' := by
  have HW := Aside0.mk (heap_alloc_new w (.cells #[.int .i64 k.f0, .int .i64 k.f1.f0, .int .i64 k.f1.f1, .int .i64 k.f2, .int .i64 k.f3] 36))
  have HB := Aside0.mk (below_alloc (Below.refl w.heap.size w) (.cells #[.int .i64 k.f0, .int .i64 k.f1.f0, .int .i64 k.f1.f1, .int .i64 k.f2, .int .i64 k.f3] 36))
  obtain ⟨k0, k1, k2, k3, k4⟩ := box36 HW.out
  clear h
  go_enter Try.func33, Try.ntmps33
  go_wp2_with fail
  refine (rmay_any k _).mono ?_
  rintro e w1 ⟨rfl, hb⟩
  rw [hm]
  have HB1 := Aside0.mk (HB.out.trans (hb.mono HB.out.size))
  clear hb
  go_wp2_with fail
  go_ret
  exact ⟨rfl, HB1.out⟩
theorem rstart_arg (h : FAt w g F L H) (k : S36) (n : Int) (hm : mayB k = true) (hn : n < 1 ∨ 1048576 < n) :
    Calls Try.prog 33 #[.pointer (some ⟨g, 0, none⟩), .agg #[.int .i64 k.f0, .int .i64 k.f1.f0, .int .i64 k.f1.f1, .int .i64 k.f2, .int .i64 k.f3], .int .i64 n] w fun e w' => e = .returned (.int .i64 1) ∧ Below w.heap.size w w' := by
  have HW := Aside0.mk (heap_alloc_new w (.cells #[.int .i64 k.f0, .int .i64 k.f1.f0, .int .i64 k.f1.f1, .int .i64 k.f2, .int .i64 k.f3] 36))
  have HB := Aside0.mk (below_alloc (Below.refl w.heap.size w) (.cells #[.int .i64 k.f0, .int .i64 k.f1.f0, .int .i64 k.f1.f1, .int .i64 k.f2, .int .i64 k.f3] 36))
  obtain ⟨k0, k1, k2, k3, k4⟩ := box36 HW.out
  clear h
  by_cases h1 : n < 1
  · have d1 : decide (n < 1) = true := decide_eq_true h1
    clear hn
    go_enter Try.func33, Try.ntmps33
    go_wp2_with fail
    refine (rmay_any k _).mono ?_
    rintro e w1 ⟨rfl, hb⟩
    rw [hm]
    have HB1 := Aside0.mk (HB.out.trans (hb.mono HB.out.size))
    clear hb
    go_wp2_with fail
    go_ret
    exact ⟨rfl, HB1.out⟩
  · have d1 : decide (n < 1) = false := decide_eq_false h1
    have d2 : decide (1048576 < n) = true := decide_eq_true (by omega)
    have h2 : 1048576 < n := by omega
    clear hn
    go_enter Try.func33, Try.ntmps33
    go_wp2_with fail
    refine (rmay_any k _).mono ?_
    rintro e w1 ⟨rfl, hb⟩
    rw [hm]
    have HB1 := Aside0.mk (HB.out.trans (hb.mono HB.out.size))
    clear hb
    go_wp2_with fail
    go_ret
    exact ⟨rfl, HB1.out⟩
set_option maxRecDepth 100000 in
set_option maxHeartbeats 4000000 in
theorem rstart_old (h : FAt w g F L H) (ho : Ord L) (k : S36) (n : Int) (hm : mayB k = true) (hn1 : 1 ≤ n) (hn2 : n ≤ 1048576) {j : Nat} (hj : j < L.length) (hk : (xAt L j).f0 = k) (hlen : L.length ≤ 2199023255552) :
    Calls Try.prog 33 #[.pointer (some ⟨g, 0, none⟩), .agg #[.int .i64 k.f0, .int .i64 k.f1.f0, .int .i64 k.f1.f1, .int .i64 k.f2, .int .i64 k.f3], .int .i64 n] w fun e w' => e = .returned (.int .i64 0) ∧ FAt w' g (New w F) (L.set j ⟨k, n⟩) H ∧ Frm w w' F := by
  have HW := Aside0.mk (heap_alloc_new w (.cells #[.int .i64 k.f0, .int .i64 k.f1.f0, .int .i64 k.f1.f1, .int .i64 k.f2, .int .i64 k.f3] 36))
  have HB := Aside0.mk (below_alloc (Below.refl w.heap.size w) (.cells #[.int .i64 k.f0, .int .i64 k.f1.f0, .int .i64 k.f1.f1, .int .i64 k.f2, .int .i64 k.f3] 36))
  have HH := Aside0.mk (h.below HB.out)
  have HO := Aside0.mk ho
  have HK := Aside0.mk hk
  obtain ⟨k0, k1, k2, k3, k4⟩ := box36 HW.out
  have d1 : decide (n < 1) = false := decide_eq_false (by omega)
  have d2 : decide (1048576 < n) = false := decide_eq_false (by omega)
  have d3 : ¬ n < 1 := by omega
  have d4 : ¬ 1048576 < n := by omega
  clear h ho hk
  go_enter Try.func33, Try.ntmps33
  go_wp2_with fail
  refine (rmay_any k _).mono ?_
  rintro e w1 ⟨rfl, hb⟩
  rw [hm]
  have HB1 := Aside0.mk (HB.out.trans (hb.mono HB.out.size))
  have HH1 := Aside0.mk (HH.out.below hb)
  obtain ⟨k0, k1, k2, k3, k4⟩ := box36 ((hb.block w.heap.size (by simp)).trans HW.out)
  clear hb
  go_wp2_with fail
  refine (find_at HH1.out HO.out hj HK.out hlen).mono ?_
  rintro e w2 ⟨rfl, hb⟩
  have HB2 := Aside0.mk (HB1.out.trans (hb.mono HB1.out.size))
  have HH2 := Aside0.mk (HH1.out.below hb)
  obtain ⟨Al, cl, Ah, ch, h1, h2, h3, h4⟩ := HH2.out.open
  rcases form85 h3 with ⟨_, e0⟩ | ⟨gl, cap, eg⟩
  · exfalso; rw [e0] at hj; simp at hj
  · injection eg with eg1 _ eg2
    subst eg1 eg2
    have q0 : w2.cell? ⟨g, 0, none⟩ = some (.slice (some ⟨gl, 0, none⟩) L.length cl) := by rw [blk_cell h1 0]; rfl
    obtain ⟨hf, hfr, fz, cz⟩ := FAt.setLeft h1 h2 h3 h4 hj n
    rw [HK.out] at hf
    have HF := Aside0.mk hf
    have HFR := Aside0.mk hfr
    clear hb h1 h2 h3 h4 hf hfr k0 k1 k2 k3 k4
    go_wp2_with fail
    go_ret
    exact ⟨rfl, HF.out.mono (fun x _ hx => .inl hx), (Frm.of_below HB2.out F).trans HFR.out (fun x _ hx => hx)⟩
set_option maxRecDepth 100000 in
set_option maxHeartbeats 4000000 in
theorem rstart_new (h : FAt w g F L H) (k : S36) (n : Int) (hm : mayB k = true) (hn1 : 1 ≤ n) (hn2 : n ≤ 1048576) (hno : ∀ i, i < L.length → ¬ (xAt L i).f0 = k) (hlen : L.length ≤ 2199023255552) :
    Calls Try.prog 33 #[.pointer (some ⟨g, 0, none⟩), .agg #[.int .i64 k.f0, .int .i64 k.f1.f0, .int .i64 k.f1.f1, .int .i64 k.f2, .int .i64 k.f3], .int .i64 n] w fun e w' => e = .returned (.int .i64 0) ∧ FAt w' g (New w F) (insS k n L) H ∧ Frm w w' F := by
  have HW := Aside0.mk (heap_alloc_new w (.cells #[.int .i64 k.f0, .int .i64 k.f1.f0, .int .i64 k.f1.f1, .int .i64 k.f2, .int .i64 k.f3] 36))
  have HB := Aside0.mk (below_alloc (Below.refl w.heap.size w) (.cells #[.int .i64 k.f0, .int .i64 k.f1.f0, .int .i64 k.f1.f1, .int .i64 k.f2, .int .i64 k.f3] 36))
  have HH := Aside0.mk (h.below HB.out)
  have HNO := Aside0.mk hno
  obtain ⟨k0, k1, k2, k3, k4⟩ := box36 HW.out
  have d1 : decide (n < 1) = false := decide_eq_false (by omega)
  have d2 : decide (1048576 < n) = false := decide_eq_false (by omega)
  have d3 : ¬ n < 1 := by omega
  have d4 : ¬ 1048576 < n := by omega
  have H0 := Aside0.mk h
  clear h hno
  go_enter Try.func33, Try.ntmps33
  go_wp2_with fail
  refine (rmay_any k _).mono ?_
  rintro e w1 ⟨rfl, hb⟩
  rw [hm]
  have HB1 := Aside0.mk (HB.out.trans (hb.mono HB.out.size))
  have HW1 := Aside0.mk ((hb.block w.heap.size (by simp)).trans HW.out)
  have HH1 := Aside0.mk (HH.out.below hb)
  obtain ⟨k0, k1, k2, k3, k4⟩ := box36 HW1.out
  clear hb
  go_wp2_with fail
  refine (find_no HH1.out HNO.out hlen).mono ?_
  rintro e w2 ⟨rfl, hb⟩
  have HB2 := Aside0.mk (HB1.out.trans (hb.mono HB1.out.size))
  have HW2 := Aside0.mk ((hb.block w.heap.size (Array.getElem?_eq_some_iff.1 HW1.out).1).trans HW1.out)
  have HH2 := Aside0.mk (HH1.out.below hb)
  obtain ⟨Al, cl, Ah, ch, h1, h2, h3, h4⟩ := HH2.out.open
  have H1 := Aside0.mk h1
  have H3 := Aside0.mk h3
  clear hb h1 h2 h3 h4 k0 k1 k2 k3 k4
  go_wp2_with fail
  obtain ⟨wo, rfl⟩ : ∃ wo : World, wo = w2 := ⟨_, rfl⟩
  go_loopw [8, 9, 10] (fun iv v pv wr => ∃ (j : Nat) (put : Bool), j ≤ L.length ∧ iv = .int .i64 j ∧ pv = .bool put ∧ Aside0 (put = (insLoop k n (L.take j)).2 ∧ Kd.R k85 85 wr wo.heap.size (fun x => wo.heap.size ≤ x) v (insLoop k n (L.take j)).1 ∧ Below wo.heap.size wo wr)) (fun iv _ _ _ => L.length - (intOf iv).toNat)
  case atStart => exact ⟨0, false, Nat.zero_le _, rfl, rfl, ⟨rfl, Kd.R_nil _ _ _ _ _, Below.refl _ _⟩⟩
  case round =>
    obtain ⟨j, put, hj, rfl, rfl, HN⟩ := hrel
    have hcb := (HN.out.2.2.block g HH2.out.lt).trans H1.out
    have q0 : wr.cell? ⟨g, 0, none⟩ = some (.slice Al L.length cl) := by rw [blk_cell hcb 0]; rfl
    have hlw := (Array.getElem?_eq_some_iff.1 HW2.out).1
    have hcw := (HN.out.2.2.block w.heap.size hlw).trans HW2.out
    obtain ⟨k0, k1, k2, k3, k4⟩ := box36 hcw
    have HLen := Aside0.mk (show ((insLoop k n (L.take j)).1.length + 2) * 48 ≤ 140737488355328 by
      have e1 := insLoop_len k n (L.take j)
      have e2 := List.length_take_le j L
      omega)
    clear hcb hcw
    by_cases hlt : j < L.length
    · have HST := Aside0.mk (insLoop_succ (k := k) (n := n) hlt)
      obtain ⟨ad, ea, p0, p1, p2, p3, p4, p5⟩ := x_cells (Kd.C_below (Kd.R_reads' H3.out).2.2 HN.out.2.2) hlt
      subst ea
      go_wp2_with fail
      refine wp_region_still_tail 9 (by kernel_rfl) (by kernel_rfl) ?_
      change wpStill _ _ (World.drew _) _ _ _
      simp only [List.take_succ_cons, List.take_zero, List.drop_succ_cons, List.drop_zero]
      repeat still_step
      refine wpStill_nil ?_
      change wpList _ _ _ _ _ (World.drew _)
      go_wp2_with fail
      refine (before_any k (xAt L j).f0 _).mono ?_
      rintro e w5 ⟨rfl, hb⟩
      have hb0 : Below wr.heap.size wr w5 := (Below.refl _ _).drew.trans (hb.mono (Nat.le_refl _))
      have HB5 := Aside0.mk hb0
      have hb5 := HN.out.2.2.trans (hb0.mono HN.out.2.2.size)
      have HN5 := Aside0.mk (show Kd.R k85 85 w5 wo.heap.size (fun x => wo.heap.size ≤ x) _ (insLoop k n (L.take j)).1 ∧ Below wo.heap.size wo w5 from ⟨Kd.R_below HN.out.2.1 hb0, hb5⟩)
      have q0 : w5.cell? ⟨g, 0, none⟩ = some (.slice (some ad) L.length cl) := by rw [blk_cell ((hb5.block g HH2.out.lt).trans H1.out) 0]; rfl
      obtain ⟨k0, k1, k2, k3, k4⟩ := box36 ((hb5.block w.heap.size hlw).trans HW2.out)
      obtain ⟨_, ea, p0, p1, p2, p3, p4, p5⟩ := x_cells (Kd.C_below (Kd.R_reads' H3.out).2.2 hb5) hlt
      cases ea
      clear hb hb0 hb5
      have hput := HN.out.1
      cases hf : kltB k (xAt L j).f0 with
      | true =>
        cases put with
        | true =>
          have HS := Aside0.mk (show insLoop k n (L.take (j + 1)) = ((insLoop k n (L.take j)).1 ++ [xAt L j], true) by
            rw [HST.out]; unfold insStep; rw [if_neg (by rw [← hput]; simp), ← hput])
          clear hf hput
          go_wp2_with (
            at_builtin; refine Kd.R_append k85 (w0 := wo) (W := w5) wo.heap.size rfl (.tmp 65) (.tmp 73) 81 85 (.agg #[.int .i64 0, .int .i64 0, .int .i64 0, .int .i64 0, .int .i64 0, .int .i64 0]) 48 rfl Try.underlying81 info85 rfl (by decide) (by decide) _ (insLoop k n (L.take j)).1 (xAt L j) [.int .i64 (xAt L j).f0.f0, .int .i64 (xAt L j).f0.f1.f0, .int .i64 (xAt L j).f0.f1.f1, .int .i64 (xAt L j).f0.f2, .int .i64 (xAt L j).f0.f3, .int .i64 (xAt L j).f1] (fun x => wo.heap.size ≤ x) (fun _ => False) rfl rfl (k85_mkM _ _ _ _) (fun _ hk => hk.elim) (fun k hk => Nat.le_trans HN5.out.2.size hk) HN5.out.1 HN5.out.2 HN5.out.2.size (by have := HLen.out; omega) ?_
            intro v1 w6 hR hb hg hat
            have HR6 := Aside0.mk (show Kd.R k85 85 w6 wo.heap.size (fun x => wo.heap.size ≤ x) v1 ((insLoop k n (L.take j)).1 ++ [xAt L j]) ∧ Below wo.heap.size wo w6 from ⟨hR, hb⟩)
            clear hR hb hg hat)
          go_roundw
          case rel => exact ⟨j + 1, true, by omega, by go_num, rfl, ⟨by rw [HS.out], by rw [HS.out]; exact HR6.out.1, HR6.out.2⟩⟩
          case measure => simp [intOf]; omega
        | false =>
          have HS := Aside0.mk (show insLoop k n (L.take (j + 1)) = ((insLoop k n (L.take j)).1 ++ [⟨k, n⟩] ++ [xAt L j], true) by
            rw [HST.out]; unfold insStep; rw [if_pos ⟨hf, hput.symm⟩]; simp)
          clear hf hput
          go_upto_region 19 with (
            at_builtin; refine Kd.R_append k85 (w0 := wo) (W := w5) wo.heap.size rfl (.tmp 59) (.tmp 63) 81 85 (.agg #[.int .i64 0, .int .i64 0, .int .i64 0, .int .i64 0, .int .i64 0, .int .i64 0]) 48 rfl Try.underlying81 info85 rfl (by decide) (by decide) _ (insLoop k n (L.take j)).1 (⟨k, n⟩ : S85) [.int .i64 k.f0, .int .i64 k.f1.f0, .int .i64 k.f1.f1, .int .i64 k.f2, .int .i64 k.f3, .int .i64 n] (fun x => wo.heap.size ≤ x) (fun _ => False) rfl rfl (k85_mkM _ _ _ _) (fun _ hk => hk.elim) (fun k hk => Nat.le_trans HN5.out.2.size hk) HN5.out.1 HN5.out.2 HN5.out.2.size (by have := HLen.out; omega) ?_
            intro v1 w6 hR hb hg hat
            have HR6 := Aside0.mk (show Kd.R k85 85 w6 wo.heap.size (fun x => wo.heap.size ≤ x) v1 ((insLoop k n (L.take j)).1 ++ [⟨k, n⟩]) ∧ Below wo.heap.size wo w6 from ⟨hR, hb⟩)
            have q0 : w6.cell? ⟨g, 0, none⟩ = some (.slice (some ad) L.length cl) := by rw [blk_cell ((hb.block g HH2.out.lt).trans H1.out) 0]; rfl
            obtain ⟨_, ea, p0, p1, p2, p3, p4, p5⟩ := x_cells (Kd.C_below (Kd.R_reads' H3.out).2.2 hb) hlt
            cases ea
            clear hR hb hg hat)
          go_wp2_with (
            at_builtin; refine Kd.R_append k85 (w0 := wo) (W := w6) wo.heap.size rfl (.tmp 65) (.tmp 73) 81 85 (.agg #[.int .i64 0, .int .i64 0, .int .i64 0, .int .i64 0, .int .i64 0, .int .i64 0]) 48 rfl Try.underlying81 info85 rfl (by decide) (by decide) v1 ((insLoop k n (L.take j)).1 ++ [⟨k, n⟩]) (xAt L j) [.int .i64 (xAt L j).f0.f0, .int .i64 (xAt L j).f0.f1.f0, .int .i64 (xAt L j).f0.f1.f1, .int .i64 (xAt L j).f0.f2, .int .i64 (xAt L j).f0.f3, .int .i64 (xAt L j).f1] (fun x => wo.heap.size ≤ x) (fun _ => False) rfl rfl (k85_mkM _ _ _ _) (fun _ hk => hk.elim) (fun k hk => Nat.le_trans HR6.out.2.size hk) HR6.out.1 HR6.out.2 HR6.out.2.size (by have := HLen.out; simp only [List.length_append, List.length_cons, List.length_nil]; omega) ?_
            intro v1 w7 hR hb hg hat
            have HR7 := Aside0.mk (show Kd.R k85 85 w7 wo.heap.size (fun x => wo.heap.size ≤ x) v1 ((insLoop k n (L.take j)).1 ++ [⟨k, n⟩] ++ [xAt L j]) ∧ Below wo.heap.size wo w7 from ⟨hR, hb⟩)
            clear hR hb hg hat)
          go_roundw
          case rel => exact ⟨j + 1, true, by omega, by go_num, rfl, ⟨by rw [HS.out], by rw [HS.out]; exact HR7.out.1, HR7.out.2⟩⟩
          case measure => simp [intOf]; omega
      | false =>
        have HS := Aside0.mk (show insLoop k n (L.take (j + 1)) = ((insLoop k n (L.take j)).1 ++ [xAt L j], put) by
          rw [HST.out]; unfold insStep; rw [if_neg (by rw [hf]; simp), ← hput])
        clear hf hput
        go_wp2_with (
          at_builtin; refine Kd.R_append k85 (w0 := wo) (W := w5) wo.heap.size rfl (.tmp 65) (.tmp 73) 81 85 (.agg #[.int .i64 0, .int .i64 0, .int .i64 0, .int .i64 0, .int .i64 0, .int .i64 0]) 48 rfl Try.underlying81 info85 rfl (by decide) (by decide) _ (insLoop k n (L.take j)).1 (xAt L j) [.int .i64 (xAt L j).f0.f0, .int .i64 (xAt L j).f0.f1.f0, .int .i64 (xAt L j).f0.f1.f1, .int .i64 (xAt L j).f0.f2, .int .i64 (xAt L j).f0.f3, .int .i64 (xAt L j).f1] (fun x => wo.heap.size ≤ x) (fun _ => False) rfl rfl (k85_mkM _ _ _ _) (fun _ hk => hk.elim) (fun k hk => Nat.le_trans HN5.out.2.size hk) HN5.out.1 HN5.out.2 HN5.out.2.size (by have := HLen.out; omega) ?_
          intro v1 w6 hR hb hg hat
          have HR6 := Aside0.mk (show Kd.R k85 85 w6 wo.heap.size (fun x => wo.heap.size ≤ x) v1 ((insLoop k n (L.take j)).1 ++ [xAt L j]) ∧ Below wo.heap.size wo w6 from ⟨hR, hb⟩)
          clear hR hb hg hat)
        go_roundw
        case rel => exact ⟨j + 1, put, by omega, by go_num, rfl, ⟨by rw [HS.out], by rw [HS.out]; exact HR6.out.1, HR6.out.2⟩⟩
        case measure => simp [intOf]; omega
    · obtain rfl : j = L.length := by omega
      have hN := HN.out
      rw [List.take_length] at hN HLen
      have HN2 := Aside0.mk hN
      have HE := Aside0.mk (insLoop_end k n L)
      clear hN
      cases put with
      | true =>
        have HS := Aside0.mk (show (insLoop k n L).1 = insS k n L by rw [← HE.out, ← HN2.out.1, if_pos rfl])
        obtain ⟨A, c, rfl, _⟩ := Kd.R_reads HN2.out.2.1
        have HF := Aside0.mk (HH2.out.put0 HN2.out.2.2 HN2.out.2.1)
        have fz := blk_frozen ((HN2.out.2.2.block g HH2.out.lt).trans H1.out) 0
        go_wp2_with fail
        go_ret
        rw [← HS.out]
        exact ⟨rfl, HF.out.1.mono (fun x _ hx => hx.imp id (fun h => Nat.le_trans HB2.out.size h)), (Frm.of_below HB2.out F).trans HF.out.2 (fun x _ hx => hx)⟩
      | false =>
        have HS := Aside0.mk (show (insLoop k n L).1 ++ [⟨k, n⟩] = insS k n L by rw [← HE.out, ← HN2.out.1, if_neg (by simp)])
        go_wp2_with (
          at_builtin; refine Kd.R_append k85 (w0 := wo) (W := wr) wo.heap.size rfl (.tmp 77) (.tmp 81) 81 85 (.agg #[.int .i64 0, .int .i64 0, .int .i64 0, .int .i64 0, .int .i64 0, .int .i64 0]) 48 rfl Try.underlying81 info85 rfl (by decide) (by decide) _ (insLoop k n L).1 (⟨k, n⟩ : S85) [.int .i64 k.f0, .int .i64 k.f1.f0, .int .i64 k.f1.f1, .int .i64 k.f2, .int .i64 k.f3, .int .i64 n] (fun x => wo.heap.size ≤ x) (fun _ => False) rfl rfl (k85_mkM _ _ _ _) (fun _ hk => hk.elim) (fun k hk => Nat.le_trans HN2.out.2.2.size hk) HN2.out.2.1 HN2.out.2.2 HN2.out.2.2.size (by have := HLen.out; omega) ?_
          intro v1 w6 hR hb hg hat
          obtain ⟨A, c, rfl, _⟩ := Kd.R_reads hR
          have HF := Aside0.mk (HH2.out.put0 hb hR)
          have fz := blk_frozen ((hb.block g HH2.out.lt).trans H1.out) 0
          have q1 : w6.cell? ⟨g, 0, none⟩ = some (.slice Al L.length cl) := by rw [blk_cell ((hb.block g HH2.out.lt).trans H1.out) 0]; rfl
          clear hR hb hg hat)
        go_ret
        rw [← HS.out]
        have hF := HF.out
        simp only [List.length_append, List.length_cons, List.length_nil, Nat.zero_add] at hF
        exact ⟨rfl, hF.1.mono (fun x _ hx => hx.imp id (fun h => Nat.le_trans HB2.out.size h)), (Frm.of_below HB2.out F).trans hF.2 (fun x _ hx => hx)⟩
theorem insS_len (k : S36) (n : Int) : ∀ L : List S85, (insS k n L).length = L.length + 1
  | [] => rfl
  | x :: L => by
    unfold insS
    split
    · simp
    · simp [insS_len k n L]
/-- Start: what it answers; the table behind it, against the timers T. -/
theorem refstart_any {T : List (S36 × Int)} (h : FAt w g F L H) (hM : MR T L) (k : S36) (n : Int) (hlen : L.length ≤ 2199023255552) :
    Calls Try.prog 33 #[.pointer (some ⟨g, 0, none⟩), .agg #[.int .i64 k.f0, .int .i64 k.f1.f0, .int .i64 k.f1.f1, .int .i64 k.f2, .int .i64 k.f3], .int .i64 n] w fun e w' => e = .returned (.int .i64 (startE k n)) ∧ (∃ L', FAt w' g (New w F) L' H ∧ MR (startT T k n) L' ∧ L'.length ≤ L.length + 1) ∧ Frm w w' F := by
  unfold startT
  cases hm : mayB k with
  | false =>
    rw [startE_no hm]
    refine (rstart_no h k n hm).mono ?_
    rintro e w' ⟨rfl, hb⟩
    exact ⟨rfl, ⟨L, (h.below hb).mono (fun x _ hx => .inl hx), by rw [if_neg (by decide)]; exact hM, Nat.le_succ _⟩, Frm.of_below hb F⟩
  | true =>
    by_cases h2 : n < 1 ∨ 1048576 < n
    · rw [startE_arg hm h2]
      refine (rstart_arg h k n hm h2).mono ?_
      rintro e w' ⟨rfl, hb⟩
      exact ⟨rfl, ⟨L, (h.below hb).mono (fun x _ hx => .inl hx), by rw [if_neg (by decide)]; exact hM, Nat.le_succ _⟩, Frm.of_below hb F⟩
    · rw [startE_ok hm (fun e => h2 (.inl e)) (fun e => h2 (.inr e)), if_pos rfl]
      by_cases hk : k ∈ keysT T
      · obtain ⟨j, hj, e⟩ := hM.mem_keys.1 hk
        refine (rstart_old h hM.2 k n hm (by omega) (by omega) hj e hlen).mono ?_
        rintro e' w' ⟨rfl, hf, hfr⟩
        exact ⟨rfl, ⟨_, hf, hM.set hj e, by simp⟩, hfr⟩
      · refine (rstart_new h k n hm (by omega) (by omega) (fun i hi e => hk (hM.mem_keys.2 ⟨i, hi, e⟩)) hlen).mono ?_
        rintro e' w' ⟨rfl, hf, hfr⟩
        exact ⟨rfl, ⟨_, hf, hM.ins hk, by rw [insS_len]; exact Nat.le_refl _⟩, hfr⟩
end Go.Proofs.Ytkndjjceijfdgaa.PAll

namespace Go.Proofs.Ytkndjjceijfdgaa.PAll
open Go.RowKit Go.Proofs.YtkndjjceijfdgaaW.PrintWords Go.Proofs.YtkndjjceijfdgaaW.PrintLast Go.Proofs.YtkndjjceijfdgaaW.PrintMore Go.Proofs.YtkndjjceijfdgaaM
set_option linter.unusedVariables false
set_option linter.unusedSimpArgs false
attribute [local go_sem high] eqA36
attribute [local go_sem high] eqA34
variable {w w' w2 wr : World} {g : Nat} {F F2 : Nat → Prop} {L L' : List S85} {H H' : List Int}
theorem New.of {W : World} {x : Nat} (h : New W F x) (hs : w.heap.size ≤ W.heap.size) : New w F x := h.imp id (fun h => Nat.le_trans hs h)
theorem filter_snoc {α : Type} {f : α → Bool} {l : List α} {x : α} : (l ++ [x]).filter f = l.filter f ++ if f x = true then [x] else [] := by
  rw [List.filter_append]
  by_cases h : f x = true
  · rw [if_pos h, List.filter_cons_of_pos h]; rfl
  · rw [if_neg h, List.filter_cons_of_neg h]; rfl
theorem tickS_snoc {Hd : List Int} {l : List S85} {x : S85} : tickS Hd (l ++ [x]) = tickS Hd l ++ (tick1S Hd x).toList := by
  unfold tickS
  rw [List.filterMap_append]
  cases h : tick1S Hd x with
  | none => rw [List.filterMap_cons_none h]; simp
  | some y => rw [List.filterMap_cons_some h]; simp
theorem outS_snoc {Hd : List Int} {l : List S85} {x : S85} : outS Hd (l ++ [x]) = outS Hd l ++ if runsS Hd x = true then [x.f0] else [] := by
  unfold outS
  rw [filter_snoc, List.map_append]
  by_cases h : runsS Hd x = true
  · rw [if_pos h, if_pos h]; rfl
  · rw [if_neg h, if_neg h]; rfl
/-- What Stop leaves: all but the timer of k. -/
def others (k : S36) (x : S85) : Bool := !decide (x.f0 = k)
set_option maxRecDepth 100000 in
set_option maxHeartbeats 4000000 in
/-- Stop's loop and end, behind find's answer at. -/
theorem refstop_any (h : FAt w g F L H) (ho : Ord L) (k : S36) (hlen : L.length ≤ 2199023255552) :
    Calls Try.prog 34 #[.pointer (some ⟨g, 0, none⟩), .agg #[.int .i64 k.f0, .int .i64 k.f1.f0, .int .i64 k.f1.f1, .int .i64 k.f2, .int .i64 k.f3]] w fun e w' => e = .returned (.bool (decide (∃ i, i < L.length ∧ (xAt L i).f0 = k))) ∧ FAt w' g (New w F) (L.filter (others k)) H ∧ Frm w w' F := by
  have HW := Aside0.mk (heap_alloc_new w (.cells #[.int .i64 k.f0, .int .i64 k.f1.f0, .int .i64 k.f1.f1, .int .i64 k.f2, .int .i64 k.f3] 36))
  have HB := Aside0.mk (below_alloc (Below.refl w.heap.size w) (.cells #[.int .i64 k.f0, .int .i64 k.f1.f0, .int .i64 k.f1.f1, .int .i64 k.f2, .int .i64 k.f3] 36))
  have HH := Aside0.mk (h.below HB.out)
  have HO := Aside0.mk ho
  obtain ⟨k0, k1, k2, k3, k4⟩ := box36 HW.out
  clear h ho
  by_cases hex : ∃ i, i < L.length ∧ (xAt L i).f0 = k
  · rw [decide_eq_true hex]
    obtain ⟨at_, hat, hk⟩ := hex
    have HK := Aside0.mk hk
    have hge : (0 : Int) ≤ (at_ : Int) := by omega
    clear hk
    go_enter Try.func34, Try.ntmps34
    go_wp2_with fail
    refine (find_at HH.out HO.out hat HK.out hlen).mono ?_
    rintro e w2 ⟨rfl, hb⟩
    have HB2 := Aside0.mk (HB.out.trans (hb.mono HB.out.size))
    have HH2 := Aside0.mk (HH.out.below hb)
    obtain ⟨Al, cl, Ah, ch, h1, h2, h3, h4⟩ := HH2.out.open
    have H1 := Aside0.mk h1
    have H3 := Aside0.mk h3
    clear hb h1 h2 h3 h4 k0 k1 k2 k3 k4
    go_wp2_with fail
    obtain ⟨wo, rfl⟩ : ∃ wo : World, wo = w2 := ⟨_, rfl⟩
    go_loopw [6, 7] (fun v iv wr => ∃ (j : Nat), j ≤ L.length ∧ iv = .int .i64 j ∧ Aside0 ((Kd.R k85 85 wr wo.heap.size (fun x => wo.heap.size ≤ x) v ((L.take j).filter (others k))) ∧ Below wo.heap.size wo wr)) (fun _ iv _ => L.length - (intOf iv).toNat)
    case atStart => exact ⟨0, Nat.zero_le _, rfl, ⟨Kd.R_nil _ _ _ _ _, Below.refl _ _⟩⟩
    case round =>
      obtain ⟨j, hj, rfl, HN⟩ := hrel
      have hcb := (HN.out.2.block g HH2.out.lt).trans H1.out
      have q0 : wr.cell? ⟨g, 0, none⟩ = some (.slice Al L.length cl) := by rw [blk_cell hcb 0]; rfl
      have HLen := Aside0.mk (show (((L.take j).filter (others k)).length + 1) * 48 ≤ 140737488355328 by
        have e1 := List.length_filter_le (others k) (L.take j)
        have e2 := List.length_take_le j L
        omega)
      have HCB := Aside0.mk hcb
      clear hcb
      by_cases hlt : j < L.length
      · have HST := Aside0.mk (show (L.take (j + 1)).filter (others k) = _ from (congrArg _ (take_x hlt)).trans filter_snoc)
        obtain ⟨ad, ea, p0, p1, p2, p3, p4, p5⟩ := x_cells (Kd.C_below (Kd.R_reads' H3.out).2.2 HN.out.2) hlt
        subst ea
        by_cases hja : j = at_
        · subst hja
          have HS := Aside0.mk (show (L.take (j + 1)).filter (others k) = (L.take j).filter (others k) by
            rw [HST.out, if_neg (by unfold others; rw [HK.out]; simp), List.append_nil])
          clear hge
          go_wp2_with fail
          go_roundw
          case rel => exact ⟨j + 1, by omega, by go_num, ⟨by rw [HS.out]; exact HN.out.1, HN.out.2⟩⟩
          case measure => simp [intOf]; omega
        · have hne : ((j : Int) != (at_ : Int)) = true := bne_iff_ne.mpr (by omega)
          have hne2 : ((j : Int) == (at_ : Int)) = false := beq_eq_false_iff_ne.mpr (by omega)
          have hne3 : (j == at_) = false := beq_eq_false_iff_ne.mpr hja
          have hne4 : (j != at_) = true := bne_iff_ne.mpr hja
          have HS := Aside0.mk (show (L.take (j + 1)).filter (others k) = (L.take j).filter (others k) ++ [xAt L j] by
            rw [HST.out, if_pos (by
              unfold others
              rw [Bool.not_eq_true', decide_eq_false_iff_not]
              exact fun e => hja (HO.out.inj hlt hat (e.trans HK.out.symm)))])
          go_wp2_with (
            at_builtin; refine Kd.R_append k85 (w0 := wo) (W := wr) wo.heap.size rfl (.tmp 23) (.tmp 31) 81 85 (.agg #[.int .i64 0, .int .i64 0, .int .i64 0, .int .i64 0, .int .i64 0, .int .i64 0]) 48 rfl Try.underlying81 info85 rfl (by decide) (by decide) _ ((L.take j).filter (others k)) (xAt L j) [.int .i64 (xAt L j).f0.f0, .int .i64 (xAt L j).f0.f1.f0, .int .i64 (xAt L j).f0.f1.f1, .int .i64 (xAt L j).f0.f2, .int .i64 (xAt L j).f0.f3, .int .i64 (xAt L j).f1] (fun x => wo.heap.size ≤ x) (fun _ => False) rfl rfl (k85_mkM _ _ _ _) (fun _ hk => hk.elim) (fun k hk => Nat.le_trans HN.out.2.size hk) HN.out.1 HN.out.2 HN.out.2.size HLen.out ?_
            intro v1 w6 hR hb hg hat
            have HR6 := Aside0.mk (show (Kd.R k85 85 w6 wo.heap.size (fun x => wo.heap.size ≤ x) v1 ((L.take j).filter (others k) ++ [xAt L j])) ∧ Below wo.heap.size wo w6 from ⟨hR, hb⟩)
            clear hR hb hg hat)
          go_roundw
          case rel => exact ⟨j + 1, by omega, by go_num, ⟨by rw [HS.out]; exact HR6.out.1, HR6.out.2⟩⟩
          case measure => simp [intOf]; omega
      · obtain rfl : j = L.length := by omega
        have hN := HN.out
        rw [List.take_length] at hN
        obtain ⟨A, c, rfl, _⟩ := Kd.R_reads hN.1
        have HF := Aside0.mk (HH2.out.put0 hN.2 hN.1)
        have fz := blk_frozen HCB.out 0
        clear hN
        go_wp2_with fail
        go_ret
        exact ⟨by first | rfl | simp, HF.out.1.mono (fun x _ hx => hx.of HB2.out.size), (Frm.of_below HB2.out F).trans HF.out.2 (fun x _ hx => hx)⟩
  · rw [decide_eq_false hex]
    have HX := Aside0.mk (show ∀ i, i < L.length → ¬ (xAt L i).f0 = k from fun i hi e => hex ⟨i, hi, e⟩)
    clear hex
    go_enter Try.func34, Try.ntmps34
    go_wp2_with fail
    refine (find_no HH.out HX.out hlen).mono ?_
    rintro e w2 ⟨rfl, hb⟩
    have HB2 := Aside0.mk (HB.out.trans (hb.mono HB.out.size))
    have HH2 := Aside0.mk (HH.out.below hb)
    obtain ⟨Al, cl, Ah, ch, h1, h2, h3, h4⟩ := HH2.out.open
    have H1 := Aside0.mk h1
    have H3 := Aside0.mk h3
    clear hb h1 h2 h3 h4 k0 k1 k2 k3 k4
    go_wp2_with fail
    obtain ⟨wo, rfl⟩ : ∃ wo : World, wo = w2 := ⟨_, rfl⟩
    go_loopw [6, 7] (fun v iv wr => ∃ (j : Nat), j ≤ L.length ∧ iv = .int .i64 j ∧ Aside0 ((Kd.R k85 85 wr wo.heap.size (fun x => wo.heap.size ≤ x) v ((L.take j).filter (others k))) ∧ Below wo.heap.size wo wr)) (fun _ iv _ => L.length - (intOf iv).toNat)
    case atStart => exact ⟨0, Nat.zero_le _, rfl, ⟨Kd.R_nil _ _ _ _ _, Below.refl _ _⟩⟩
    case round =>
      obtain ⟨j, hj, rfl, HN⟩ := hrel
      have hcb := (HN.out.2.block g HH2.out.lt).trans H1.out
      have q0 : wr.cell? ⟨g, 0, none⟩ = some (.slice Al L.length cl) := by rw [blk_cell hcb 0]; rfl
      have HLen := Aside0.mk (show (((L.take j).filter (others k)).length + 1) * 48 ≤ 140737488355328 by
        have e1 := List.length_filter_le (others k) (L.take j)
        have e2 := List.length_take_le j L
        omega)
      have HCB := Aside0.mk hcb
      clear hcb
      by_cases hlt : j < L.length
      · have HST := Aside0.mk (show (L.take (j + 1)).filter (others k) = _ from (congrArg _ (take_x hlt)).trans filter_snoc)
        obtain ⟨ad, ea, p0, p1, p2, p3, p4, p5⟩ := x_cells (Kd.C_below (Kd.R_reads' H3.out).2.2 HN.out.2) hlt
        subst ea
        have hne : ((j : Int) != (-1 : Int)) = true := bne_iff_ne.mpr (by omega)
        have hne2 : ((j : Int) == (-1 : Int)) = false := beq_eq_false_iff_ne.mpr (by omega)
        have HS := Aside0.mk (show (L.take (j + 1)).filter (others k) = (L.take j).filter (others k) ++ [xAt L j] by
          rw [HST.out, if_pos (by
            unfold others
            rw [Bool.not_eq_true', decide_eq_false_iff_not]
            exact HX.out j hlt)])
        go_wp2_with (
          at_builtin; refine Kd.R_append k85 (w0 := wo) (W := wr) wo.heap.size rfl (.tmp 23) (.tmp 31) 81 85 (.agg #[.int .i64 0, .int .i64 0, .int .i64 0, .int .i64 0, .int .i64 0, .int .i64 0]) 48 rfl Try.underlying81 info85 rfl (by decide) (by decide) _ ((L.take j).filter (others k)) (xAt L j) [.int .i64 (xAt L j).f0.f0, .int .i64 (xAt L j).f0.f1.f0, .int .i64 (xAt L j).f0.f1.f1, .int .i64 (xAt L j).f0.f2, .int .i64 (xAt L j).f0.f3, .int .i64 (xAt L j).f1] (fun x => wo.heap.size ≤ x) (fun _ => False) rfl rfl (k85_mkM _ _ _ _) (fun _ hk => hk.elim) (fun k hk => Nat.le_trans HN.out.2.size hk) HN.out.1 HN.out.2 HN.out.2.size HLen.out ?_
          intro v1 w6 hR hb hg hat
          have HR6 := Aside0.mk (show (Kd.R k85 85 w6 wo.heap.size (fun x => wo.heap.size ≤ x) v1 ((L.take j).filter (others k) ++ [xAt L j])) ∧ Below wo.heap.size wo w6 from ⟨hR, hb⟩)
          clear hR hb hg hat)
        go_roundw
        case rel => exact ⟨j + 1, by omega, by go_num, ⟨by rw [HS.out]; exact HR6.out.1, HR6.out.2⟩⟩
        case measure => simp [intOf]; omega
      · obtain rfl : j = L.length := by omega
        have hN := HN.out
        rw [List.take_length] at hN
        obtain ⟨A, c, rfl, _⟩ := Kd.R_reads hN.1
        have HF := Aside0.mk (HH2.out.put0 hN.2 hN.1)
        have fz := blk_frozen HCB.out 0
        clear hN
        go_wp2_with fail
        go_ret
        exact ⟨by first | rfl | simp, HF.out.1.mono (fun x _ hx => hx.of HB2.out.size), (Frm.of_below HB2.out F).trans HF.out.2 (fun x _ hx => hx)⟩
end Go.Proofs.Ytkndjjceijfdgaa.PAll

namespace Go.Proofs.Ytkndjjceijfdgaa.PAll
open Go.RowKit Go.Proofs.YtkndjjceijfdgaaW.PrintWords Go.Proofs.YtkndjjceijfdgaaW.PrintLast Go.Proofs.YtkndjjceijfdgaaW.PrintMore Go.Proofs.YtkndjjceijfdgaaM
set_option linter.unusedVariables false
set_option linter.unusedSimpArgs false
attribute [local go_sem high] eqA36
attribute [local go_sem high] eqA34
variable {w w' w2 wr : World} {g : Nat} {F F2 : Nat → Prop} {L L' : List S85} {H H' : List Int}
theorem Frm.of_row {v : Value} (h : w.grownBy w' v.ownBlock) (hok : ∀ k, v.ownBlock = some k → F k) : Frm w w' F :=
  ⟨h.os, h.tape, h.output, h.size, fun x hx hn => h.block x hx (fun e => hn (hok x e.symm))⟩
/-- A block of another type is none of the table's. -/
theorem FAt.ne_row (h : FAt w g F L H) {c t : Nat} {cs : Array Value} (hc : w.heap[c]? = some (.cells cs t (0, 0))) (h83 : 83 ≠ t) (h85 : 85 ≠ t) (h3 : 3 ≠ t) : FAt w g (fun x => F x ∧ x ≠ c) L H := by
  obtain ⟨vl, vh, h1, h2, h3', h4⟩ := h
  refine ⟨vl, vh, h1, ⟨h2, ?_⟩, Kd.R_types h3' hc (fun q hq => ?_), Kd.R_types h4 hc (fun q hq => ?_)⟩
  · rintro rfl
    rw [h1] at hc
    injection hc with e
    injection e with _ e
    exact h83 e
  · have : q ∈ [85] := hq
    have : q = 85 := by simpa using this
    omega
  · have := only3 q hq; omega
/-- What Drop leaves. -/
def notOf (s : S34) (x : S85) : Bool := !isKey s x.f0
set_option maxRecDepth 100000 in
set_option maxHeartbeats 4000000 in
theorem refdrop_any (h : FAt w g F L H) (s : S34) (hlen : L.length ≤ 2199023255552) :
    Calls Try.prog 35 #[.pointer (some ⟨g, 0, none⟩), .agg #[.int .i64 s.f0, .int .i64 s.f1]] w fun e w' => e = .returned (.int .i64 ((L.length : Int) - (L.filter (notOf s)).length)) ∧ FAt w' g (New w F) (L.filter (notOf s)) H ∧ Frm w w' F := by
  have HW := Aside0.mk (heap_alloc_new w (.cells #[.int .i64 s.f0, .int .i64 s.f1] 34))
  have HB2 := Aside0.mk (below_alloc (Below.refl w.heap.size w) (.cells #[.int .i64 s.f0, .int .i64 s.f1] 34))
  have HH2 := Aside0.mk (h.below HB2.out)
  clear h
  obtain ⟨Al, cl, Ah, ch, h1, h2, h3, h4⟩ := HH2.out.open
  have H1 := Aside0.mk h1
  have H3 := Aside0.mk h3
  clear h1 h2 h3 h4
  go_enter Try.func35, Try.ntmps35
  go_wp2_with fail
  obtain ⟨wo, hwo⟩ : ∃ wo : World, wo = w.alloc (.cells #[.int .i64 s.f0, .int .i64 s.f1] 34) := ⟨_, rfl⟩
  rw [← hwo] at HW HB2 HH2 H1 H3 ⊢
  clear hwo
  go_loopw [5, 6] (fun v iv wr => ∃ (j : Nat), j ≤ L.length ∧ iv = .int .i64 j ∧ Aside0 ((Kd.R k85 85 wr wo.heap.size (fun x => wo.heap.size ≤ x) v ((L.take j).filter (notOf s))) ∧ Below wo.heap.size wo wr)) (fun _ iv _ => L.length - (intOf iv).toNat)
  case atStart => exact ⟨0, Nat.zero_le _, rfl, ⟨Kd.R_nil _ _ _ _ _, Below.refl _ _⟩⟩
  case round =>
    obtain ⟨j, hj, rfl, HN⟩ := hrel
    have hcb := (HN.out.2.block g HH2.out.lt).trans H1.out
    have q0 : wr.cell? ⟨g, 0, none⟩ = some (.slice Al L.length cl) := by rw [blk_cell hcb 0]; rfl
    have hcw := (HN.out.2.block w.heap.size (Array.getElem?_eq_some_iff.1 HW.out).1).trans HW.out
    have s0 : wr.cell? ⟨w.heap.size, 0, none⟩ = some (.int .i64 s.f0) := by rw [blk_cell hcw 0]; rfl
    have s1 : wr.cell? ⟨w.heap.size, 1, none⟩ = some (.int .i64 s.f1) := by rw [blk_cell hcw 1]; rfl
    have HLen := Aside0.mk (show (((L.take j).filter (notOf s)).length + 1) * 48 ≤ 140737488355328 by
      have e1 := List.length_filter_le (notOf s) (L.take j)
      have e2 := List.length_take_le j L
      omega)
    have HCB := Aside0.mk hcb
    clear hcb hcw
    by_cases hlt : j < L.length
    · have HST := Aside0.mk (show (L.take (j + 1)).filter (notOf s) = _ from (congrArg _ (take_x hlt)).trans filter_snoc)
      obtain ⟨ad, ea, p0, p1, p2, p3, p4, p5⟩ := x_cells (Kd.C_below (Kd.R_reads' H3.out).2.2 HN.out.2) hlt
      subst ea
      cases hk : isKey s (xAt L j).f0 with
      | true =>
        have HS := Aside0.mk (show (L.take (j + 1)).filter (notOf s) = (L.take j).filter (notOf s) by
          rw [HST.out, if_neg (by unfold notOf; rw [hk]; simp), List.append_nil])
        unfold isKey at hk
        simp only [Bool.and_eq_true, decide_eq_true_eq] at hk
        rw [hk.1] at p1
        rw [hk.2] at p2
        clear hk
        go_wp2_with fail
        go_quiet (fail)
        go_wp2_with fail
        go_roundw
        case rel => exact ⟨j + 1, by omega, by go_num, ⟨by rw [HS.out]; exact Kd.R_drewN HN.out.1 nq, pw_below_drewN HN.out.2 nq⟩⟩
        case measure => simp [intOf]; omega
      | false =>
        have HS := Aside0.mk (show (L.take (j + 1)).filter (notOf s) = (L.take j).filter (notOf s) ++ [xAt L j] by
          rw [HST.out, if_pos (by unfold notOf; rw [hk]; rfl)])
        have hne : ((xAt L j).f0.f1.f0 == s.f0 && (xAt L j).f0.f1.f1 == s.f1) = false := by
          unfold isKey at hk
          cases hc : ((xAt L j).f0.f1.f0 == s.f0 && (xAt L j).f0.f1.f1 == s.f1) with
          | false => rfl
          | true =>
            simp at hc
            simp [hc.1, hc.2] at hk
        clear hk
        go_wp2_with fail
        go_quiet (fail)
        go_wp2_with (
          at_builtin; refine Kd.R_append k85 (w0 := wo) (W := (wr.drewN nq)) wo.heap.size rfl (.tmp 28) (.tmp 36) 81 85 (.agg #[.int .i64 0, .int .i64 0, .int .i64 0, .int .i64 0, .int .i64 0, .int .i64 0]) 48 rfl Try.underlying81 info85 rfl (by decide) (by decide) _ ((L.take j).filter (notOf s)) (xAt L j) [.int .i64 (xAt L j).f0.f0, .int .i64 (xAt L j).f0.f1.f0, .int .i64 (xAt L j).f0.f1.f1, .int .i64 (xAt L j).f0.f2, .int .i64 (xAt L j).f0.f3, .int .i64 (xAt L j).f1] (fun x => wo.heap.size ≤ x) (fun _ => False) rfl rfl (k85_mkM _ _ _ _) (fun _ hk => hk.elim) (fun k hk => Nat.le_trans (pw_below_drewN HN.out.2 nq).size hk) (Kd.R_drewN HN.out.1 nq) (pw_below_drewN HN.out.2 nq) (pw_below_drewN HN.out.2 nq).size HLen.out ?_
          intro v1 w6 hR hb hg hat
          have HR6 := Aside0.mk (show (Kd.R k85 85 w6 wo.heap.size (fun x => wo.heap.size ≤ x) v1 ((L.take j).filter (notOf s) ++ [xAt L j])) ∧ Below wo.heap.size wo w6 from ⟨hR, hb⟩)
          clear hR hb hg hat)
        go_roundw
        case rel => exact ⟨j + 1, by omega, by go_num, ⟨by rw [HS.out]; exact HR6.out.1, HR6.out.2⟩⟩
        case measure => simp [intOf]; omega
    · obtain rfl : j = L.length := by omega
      have hN := HN.out
      rw [List.take_length] at hN
      obtain ⟨A, c, rfl, _⟩ := Kd.R_reads hN.1
      have HF := Aside0.mk (HH2.out.put0 hN.2 hN.1)
      have fz := blk_frozen HCB.out 0
      have hle := List.length_filter_le (notOf s) L
      clear hN
      go_wp2_with fail
      go_ret
      exact ⟨by first | rfl | simp, HF.out.1.mono (fun x _ hx => hx.of HB2.out.size), (Frm.of_below HB2.out F).trans HF.out.2 (fun x _ hx => hx)⟩
set_option maxRecDepth 100000 in
set_option maxHeartbeats 4000000 in
theorem refhold_any (h : FAt w g F L H) (p : Int) (hlen : H.length ≤ 2199023255552) :
    Calls Try.prog 36 #[.pointer (some ⟨g, 0, none⟩), .int .i64 p] w fun e w' => e = .returned (.tuple #[]) ∧ FAt w' g (New w F) L (if p ∈ H then H else H ++ [p]) ∧ Frm w w' F := by
  have HH := Aside0.mk h
  by_cases hp : p ∈ H
  · rw [if_pos hp]
    have HP := Aside0.mk hp
    clear h hp
    go_enter Try.func36, Try.ntmps36
    go_wp2_with fail
    refine (rheld_any HH.out p hlen).mono ?_
    rintro e w2 ⟨rfl, rfl⟩
    rw [decide_eq_true HP.out]
    go_wp2_with fail
    go_end0
    exact ⟨rfl, HH.out.mono (fun x _ hx => .inl hx), Frm.of_below (Below.refl _ _) F⟩
  · rw [if_neg hp]
    have HP := Aside0.mk hp
    clear hp
    obtain ⟨Al, cl, Ah, ch, h1, h2, h3, h4⟩ := h.open
    have H1 := Aside0.mk h1
    have H2 := Aside0.mk h2
    have H3 := Aside0.mk h3
    have H4 := Aside0.mk h4
    have q1 : w.cell? ⟨g, 1, none⟩ = some (.slice Ah H.length ch) := by rw [blk_cell h1 1]; rfl
    have HL := Aside0.mk (show (H.length + 1) * 8 ≤ 140737488355328 by omega)
    clear h h1 h2 h3 h4
    go_enter Try.func36, Try.ntmps36
    go_wp2_with fail
    refine (rheld_any HH.out p hlen).mono ?_
    rintro e w2 ⟨rfl, rfl⟩
    rw [decide_eq_false HP.out]
    have hcx := (below_alloc (Below.refl w2.heap.size w2) (.cells #[.int .i64 p] 3)).block g HH.out.lt
    have x1 : (w2.alloc (.cells #[.int .i64 p] 3)).cell? ⟨g, 1, none⟩ = some (.slice Ah H.length ch) := by rw [blk_cell (hcx.trans H1.out) 1]; rfl
    clear hcx
    go_wp2_with (
      at_builtin; refine Kd.R_append (Kd.int .i64) (w0 := w2) (W := w2) 0 rfl (.tmp 14) (.tmp 16) 26 3 (.int .i64 0) 8 rfl Try.underlying26 info3 rfl (by decide) (by decide) (.slice Ah H.length ch) H p [.int .i64 p] (New w2 F) (fun _ => False) rfl rfl rfl (fun _ hk => hk.elim) (fun k hk => .inr hk) (Kd.R_mono H4.out (fun k hk => .inl hk)) (Below.refl _ _) (Nat.zero_le _) HL.out ?_
      intro v1 w7 hR7 hb7 hg7 hat7
      obtain ⟨A2, cp2, rfl⟩ := Kd.R_slice hR7
      have hne := Kd.R_ne H4.out H1.out (by decide)
      have hc7 := (hg7.block g (Array.getElem?_eq_some_iff.1 H1.out).1 hne).trans H1.out
      have y0 : w7.cell? ⟨g, 1, none⟩ = some (.slice Ah H.length ch) := by rw [blk_cell hc7 1]; rfl
      have f0 := blk_frozen hc7 1
      have HR7 := Aside0.mk hR7
      have HG7 := Aside0.mk hg7
      have HC7 := Aside0.mk hc7
      clear hR7 hb7 hg7 hat7 hc7 hne)
    go_end0
    have hset : FAt (w7.setCell ⟨g, 1, none⟩ (.slice A2 (H ++ [p]).length cp2)) g (New w2 F) L (H ++ [p]) := by
      refine ⟨.slice Al L.length cl, .slice A2 (H ++ [p]).length cp2, heap_setCell_same _ _ 1 _ _ _ HC7.out, .inl H2.out, ?_, Kd.R_set HR7.out HC7.out (fun q hq e => by have := only3 q hq; omega) 1 _⟩
      refine Kd.R_set (Kd.R_over (Kd.R_mono H3.out (fun k hk => .inl hk)) H4.out (fun q hq e => ?_) HG7.out) HC7.out (fun q hq e => ?_) 1 _
      · have : q ∈ [85] := hq
        have : q = 85 := by simpa using this
        omega
      · have : q ∈ [85] := hq
        have : q = 85 := by simpa using this
        omega
    have hfr : Frm w2 (w7.setCell ⟨g, 1, none⟩ (.slice A2 (H ++ [p]).length cp2)) F := (Frm.of_row HG7.out (fun k hk => H4.out.1 k hk)).trans (Frm.set w7 g 1 _ H2.out) (fun x _ hx => hx)
    rw [List.length_append, List.length_cons, List.length_nil, Nat.zero_add] at hset hfr
    exact ⟨rfl, hset, hfr⟩
theorem take_l {L : List Int} {i : Nat} (h : i < L.length) : L.take (i + 1) = L.take i ++ [lAt L i] := by
  rw [List.take_succ_eq_append_getElem h]
  unfold lAt
  rw [List.getD_eq_getElem?_getD, List.getElem?_eq_getElem h]; rfl
def neP (p : Int) (m : Int) : Bool := !decide (m = p)
set_option maxRecDepth 100000 in
set_option maxHeartbeats 4000000 in
theorem refgo_any (h : FAt w g F L H) (p : Int) (hlen : H.length ≤ 2199023255552) :
    Calls Try.prog 37 #[.pointer (some ⟨g, 0, none⟩), .int .i64 p] w fun e w' => e = .returned (.tuple #[]) ∧ FAt w' g (New w F) L (H.filter (neP p)) ∧ Frm w w' F := by
  have HH2 := Aside0.mk h
  clear h
  obtain ⟨Al, cl, Ah, ch, h1, h2, h3, h4⟩ := HH2.out.open
  have H1 := Aside0.mk h1
  have H4 := Aside0.mk h4
  clear h1 h2 h3 h4
  obtain ⟨wo, rfl⟩ : ∃ wo : World, wo = w := ⟨_, rfl⟩
  go_enter Try.func37, Try.ntmps37
  go_wp2_with fail
  go_loopw [4, 5] (fun v iv wr => ∃ (j : Nat), j ≤ H.length ∧ iv = .int .i64 j ∧ Aside0 (Kd.R (Kd.int .i64) 3 wr wo.heap.size (fun x => wo.heap.size ≤ x) v ((H.take j).filter (neP p)) ∧ Below wo.heap.size wo wr)) (fun _ iv _ => H.length - (intOf iv).toNat)
  case atStart => exact ⟨0, Nat.zero_le _, rfl, ⟨Kd.R_nil _ _ _ _ _, Below.refl _ _⟩⟩
  case round =>
    obtain ⟨j, hj, rfl, HN⟩ := hrel
    have hcb := (HN.out.2.block g HH2.out.lt).trans H1.out
    have q0 : wr.cell? ⟨g, 1, none⟩ = some (.slice Ah H.length ch) := by rw [blk_cell hcb 1]; rfl
    have HLen := Aside0.mk (show (((H.take j).filter (neP p)).length + 1) * 8 ≤ 140737488355328 by
      have e1 := List.length_filter_le (neP p) (H.take j)
      have e2 := List.length_take_le j H
      omega)
    have HCB := Aside0.mk hcb
    clear hcb
    by_cases hlt : j < H.length
    · have HST := Aside0.mk (show (H.take (j + 1)).filter (neP p) = _ from (congrArg _ (take_l hlt)).trans filter_snoc)
      obtain ⟨ad, ea, p0⟩ := int_cell (Kd.C_below (Kd.R_reads' H4.out).2.2 HN.out.2) hlt
      subst ea
      by_cases he : lAt H j = p
      · have HS := Aside0.mk (show (H.take (j + 1)).filter (neP p) = (H.take j).filter (neP p) by
          rw [HST.out, if_neg (by unfold neP; simp [he]), List.append_nil])
        rw [he] at p0
        clear he
        go_wp2_with fail
        go_roundw
        case rel => exact ⟨j + 1, by omega, by go_num, ⟨by rw [HS.out]; exact HN.out.1, HN.out.2⟩⟩
        case measure => simp [intOf]; omega
      · have HS := Aside0.mk (show (H.take (j + 1)).filter (neP p) = (H.take j).filter (neP p) ++ [lAt H j] by
          rw [HST.out, if_pos (by unfold neP; simp [he])])
        have hne : (lAt H j != p) = true := bne_iff_ne.mpr he
        have hne2 : (lAt H j == p) = false := beq_eq_false_iff_ne.mpr he
        go_wp2_with (
          at_builtin; refine Kd.R_append (Kd.int .i64) (w0 := wo) (W := wr) wo.heap.size rfl (.tmp 24) (.tmp 32) 26 3 (.int .i64 0) 8 rfl Try.underlying26 info3 rfl (by decide) (by decide) _ ((H.take j).filter (neP p)) (lAt H j) [.int .i64 (lAt H j)] (fun x => wo.heap.size ≤ x) (fun _ => False) rfl rfl rfl (fun _ hk => hk.elim) (fun k hk => Nat.le_trans HN.out.2.size hk) HN.out.1 HN.out.2 HN.out.2.size HLen.out ?_
          intro v1 w6 hR hb hg hat
          have HR6 := Aside0.mk (show Kd.R (Kd.int .i64) 3 w6 wo.heap.size (fun x => wo.heap.size ≤ x) v1 ((H.take j).filter (neP p) ++ [lAt H j]) ∧ Below wo.heap.size wo w6 from ⟨hR, hb⟩)
          clear hR hb hg hat)
        go_roundw
        case rel => exact ⟨j + 1, by omega, by go_num, ⟨by rw [HS.out]; exact HR6.out.1, HR6.out.2⟩⟩
        case measure => simp [intOf]; omega
    · obtain rfl : j = H.length := by omega
      have hN := HN.out
      rw [List.take_length] at hN
      obtain ⟨A, c, rfl, _⟩ := Kd.R_reads hN.1
      have HF := Aside0.mk (HH2.out.put1 hN.2 hN.1)
      have fz := blk_frozen HCB.out 1
      clear hN
      go_wp2_with fail
      go_end0
      exact ⟨rfl, HF.out.1, HF.out.2⟩
end Go.Proofs.Ytkndjjceijfdgaa.PAll

namespace Go.Proofs.Ytkndjjceijfdgaa.PAll
open Go.RowKit Go.Proofs.YtkndjjceijfdgaaW.PrintWords Go.Proofs.YtkndjjceijfdgaaW.PrintLast Go.Proofs.YtkndjjceijfdgaaW.PrintMore Go.Proofs.YtkndjjceijfdgaaM
set_option linter.unusedVariables false
set_option linter.unusedSimpArgs false
attribute [local go_sem high] eqA36
attribute [local go_sem high] eqA34
variable {w w' w2 wr : World} {g : Nat} {F F2 : Nat → Prop} {L L' : List S85} {H H' : List Int}
theorem box85 {w : World} {B : Nat} {x : S85} (h : w.heap[B]? = some (.cells #[.int .i64 x.f0.f0, .int .i64 x.f0.f1.f0, .int .i64 x.f0.f1.f1, .int .i64 x.f0.f2, .int .i64 x.f0.f3, .int .i64 x.f1] 85 (0, 0))) :
    w.cell? ⟨B, 0, none⟩ = some (.int .i64 x.f0.f0) ∧ w.cell? ⟨B, 1, none⟩ = some (.int .i64 x.f0.f1.f0) ∧ w.cell? ⟨B, 2, none⟩ = some (.int .i64 x.f0.f1.f1) ∧ w.cell? ⟨B, 3, none⟩ = some (.int .i64 x.f0.f2) ∧ w.cell? ⟨B, 4, none⟩ = some (.int .i64 x.f0.f3) ∧ w.cell? ⟨B, 5, none⟩ = some (.int .i64 x.f1) :=
  ⟨by rw [blk_cell h 0]; rfl, by rw [blk_cell h 1]; rfl, by rw [blk_cell h 2]; rfl, by rw [blk_cell h 3]; rfl, by rw [blk_cell h 4]; rfl, by rw [blk_cell h 5]; rfl⟩
theorem tickS_len (Hd : List Int) (L : List S85) : (tickS Hd L).length ≤ L.length := List.length_filterMap_le _ _
theorem outS_len (Hd : List Int) (L : List S85) : (outS Hd L).length ≤ L.length := by
  unfold outS; rw [List.length_map]; exact List.length_filter_le _ _
set_option maxRecDepth 100000 in
set_option maxHeartbeats 8000000 in
theorem reftick_any (h : FAt w g F L H) (hlen : L.length ≤ 2199023255552) (hhen : H.length ≤ 2199023255552) (hL : ∀ x ∈ L, 1 ≤ x.f1 ∧ x.f1 ≤ 1048576) :
    Calls Try.prog 38 #[.pointer (some ⟨g, 0, none⟩)] w fun e w' => ∃ A c, e = .returned (.slice A (outS H L).length c) ∧ Kd.R k36 36 w' w.heap.size (fun x => w.heap.size ≤ x) (.slice A (outS H L).length c) (outS H L) ∧ FAt w' g (New w F) (tickS H L) H ∧ Frm w w' F := by
  have HH2 := Aside0.mk h
  have HLE := Aside0.mk hL
  clear h hL
  obtain ⟨Al, cl, Ah, ch, h1, h2, h3, h4⟩ := HH2.out.open
  have H1 := Aside0.mk h1
  have H3 := Aside0.mk h3
  clear h1 h2 h3 h4
  obtain ⟨wo, rfl⟩ : ∃ wo : World, wo = w := ⟨_, rfl⟩
  go_enter Try.func38, Try.ntmps38
  go_wp2_with fail
  go_loopw [3, 4, 5] (fun v ov iv wr => ∃ (j : Nat), j ≤ L.length ∧ iv = .int .i64 j ∧ Aside0 ((Kd.R k85 85 wr wo.heap.size (fun x => wo.heap.size ≤ x) v (tickS H (L.take j))) ∧ Kd.R k36 36 wr wo.heap.size (fun x => wo.heap.size ≤ x) ov (outS H (L.take j)) ∧ Below wo.heap.size wo wr)) (fun _ _ iv _ => L.length - (intOf iv).toNat)
  case atStart => exact ⟨0, Nat.zero_le _, rfl, ⟨Kd.R_nil _ _ _ _ _, Kd.R_nil _ _ _ _ _, Below.refl _ _⟩⟩
  case round =>
    obtain ⟨j, hj, rfl, HN⟩ := hrel
    have hcb := (HN.out.2.2.block g HH2.out.lt).trans H1.out
    have q0 : wr.cell? ⟨g, 0, none⟩ = some (.slice Al L.length cl) := by rw [blk_cell hcb 0]; rfl
    have hlj := List.length_take_le j L
    have HLen := Aside0.mk (show ((tickS H (L.take j)).length + 1) * 48 ≤ 140737488355328 by
      have e1 := tickS_len H (L.take j)
      omega)
    have HLen2 := Aside0.mk (show ((outS H (L.take j)).length + 1) * 40 ≤ 140737488355328 by
      have e1 := outS_len H (L.take j)
      omega)
    have HCB := Aside0.mk hcb
    clear hcb hlj
    by_cases hlt : j < L.length
    · have HST := Aside0.mk (show tickS H (L.take (j + 1)) = _ from (congrArg _ (take_x hlt)).trans tickS_snoc)
      have HSO := Aside0.mk (show outS H (L.take (j + 1)) = _ from (congrArg _ (take_x hlt)).trans outS_snoc)
      obtain ⟨ad, ea, p0, p1, p2, p3, p4, p5⟩ := x_cells (Kd.C_below (Kd.R_reads' H3.out).2.2 HN.out.2.2) hlt
      subst ea
      have hle := HLE.out _ (xAt_mem hlt)
      obtain ⟨x, hx⟩ : ∃ x, x = xAt L j := ⟨_, rfl⟩
      rw [← hx] at p0 p1 p2 p3 p4 p5 HST HSO hle
      have HXE := Aside0.mk hx
      clear hx
      obtain ⟨hl1, hl2⟩ := hle
      have HNW := Aside0.mk (heap_alloc_new wr (.cells #[.int .i64 x.f0.f0, .int .i64 x.f0.f1.f0, .int .i64 x.f0.f1.f1, .int .i64 x.f0.f2, .int .i64 x.f0.f3, .int .i64 x.f1] 85))
      have HBW := Aside0.mk (below_alloc (Below.refl wr.heap.size wr) (.cells #[.int .i64 x.f0.f0, .int .i64 x.f0.f1.f0, .int .i64 x.f0.f1.f1, .int .i64 x.f0.f2, .int .i64 x.f0.f3, .int .i64 x.f1] 85))
      obtain ⟨V, hV⟩ : ∃ V, V = wr.alloc (.cells #[.int .i64 x.f0.f0, .int .i64 x.f0.f1.f0, .int .i64 x.f0.f1.f1, .int .i64 x.f0.f2, .int .i64 x.f0.f3, .int .i64 x.f1] 85) := ⟨_, rfl⟩
      go_upto_region 7 with (fail)
      rw [← hV] at HNW HBW ⊢
      clear hV p0 p1 p2 p3 p4 p5 q0
      have hBV := HN.out.2.2.trans (HBW.out.mono HN.out.2.2.size)
      have HBV := Aside0.mk hBV
      have q0 : V.cell? ⟨g, 0, none⟩ = some (.slice (some ad) L.length cl) := by rw [blk_cell ((hBV.block g HH2.out.lt).trans H1.out) 0]; rfl
      obtain ⟨b0, b1, b2, b3, b4, b5⟩ := box85 HNW.out
      have fz := blk_frozen HNW.out 5
      have HNV := Aside0.mk (show Kd.R k85 85 V wo.heap.size (fun x => wo.heap.size ≤ x ∧ x ≠ wr.heap.size) u3 (tickS H (L.take j)) ∧ Kd.R k36 36 V wo.heap.size (fun x => wo.heap.size ≤ x ∧ x ≠ wr.heap.size) u4 (outS H (L.take j)) from ⟨Kd.R_below (Kd.R_mono (Kd.R_bound HN.out.1) (fun k hk => ⟨hk.1, by have := hk.2.2.1; omega⟩)) HBW.out, Kd.R_below (Kd.R_mono (Kd.R_bound HN.out.2.1) (fun k hk => ⟨hk.1, by have := hk.2.2.1; omega⟩)) HBW.out⟩)
      have HNP := Aside0.mk (show (Kd.R k85 85 V wo.heap.size (fun x => wo.heap.size ≤ x) u3 (tickS H (L.take j))) ∧ Kd.R k36 36 V wo.heap.size (fun x => wo.heap.size ≤ x) u4 (outS H (L.take j)) from ⟨Kd.R_mono HNV.out.1 (fun _ hk => hk.1), Kd.R_mono HNV.out.2 (fun _ hk => hk.1)⟩)
      have HNS := Aside0.mk (show ∀ n : Int, (Kd.R k85 85 (V.setCell ⟨wr.heap.size, 5, none⟩ (.int .i64 n)) wo.heap.size (fun x => wo.heap.size ≤ x) u3 (tickS H (L.take j))) ∧ Kd.R k36 36 (V.setCell ⟨wr.heap.size, 5, none⟩ (.int .i64 n)) wo.heap.size (fun x => wo.heap.size ≤ x) u4 (outS H (L.take j)) ∧ Below wo.heap.size wo (V.setCell ⟨wr.heap.size, 5, none⟩ (.int .i64 n)) from fun n => ⟨Kd.R_mono (Kd.R_far (p := ⟨wr.heap.size, 5, none⟩) HNV.out.1 (fun k hk => hk.2) _) (fun _ hk => hk.1), Kd.R_mono (Kd.R_far (p := ⟨wr.heap.size, 5, none⟩) HNV.out.2 (fun k hk => hk.2) _) (fun _ hk => hk.1), below_set hBV HN.out.2.2.size⟩)
      clear hBV
      go_wp2_with fail
      refine (rheld_any (HH2.out.below HBV.out) x.f0.f0 hhen).mono ?_
      rintro e w5 ⟨rfl, rfl⟩
      by_cases hh : x.f0.f0 ∈ H
      · rw [decide_eq_true hh]
        have HS := Aside0.mk (show tickS H (L.take (j + 1)) = tickS H (L.take j) ++ [x] by rw [HST.out]; unfold tick1S; rw [if_pos hh]; rfl)
        have HO := Aside0.mk (show outS H (L.take (j + 1)) = outS H (L.take j) by rw [HSO.out, if_neg (by unfold runsS; simp [hh]), List.append_nil])
        have hz1 : (x.f1 == 0) = false := beq_eq_false_iff_ne.mpr (by omega)
        clear hh
        go_wp2_with (
          at_builtin; refine Kd.R_append k85 (w0 := wo) (W := w5) wo.heap.size rfl (.tmp 43) (.tmp 45) 81 85 (.agg #[.int .i64 0, .int .i64 0, .int .i64 0, .int .i64 0, .int .i64 0, .int .i64 0]) 48 rfl Try.underlying81 info85 rfl (by decide) (by decide) _ (tickS H (L.take j)) x [.int .i64 x.f0.f0, .int .i64 x.f0.f1.f0, .int .i64 x.f0.f1.f1, .int .i64 x.f0.f2, .int .i64 x.f0.f3, .int .i64 x.f1] (fun x => wo.heap.size ≤ x) (fun _ => False) rfl (by first | rfl | simp [Act.eval, Act.put]) (k85_mkM _ _ _ _) (fun _ hk => hk.elim) (fun k hk => Nat.le_trans HBV.out.size hk) HNP.out.1 HBV.out HBV.out.size HLen.out ?_
          intro v1 w6 hR hb hg hat
          have HR6 := Aside0.mk (show (Kd.R k85 85 w6 wo.heap.size (fun x => wo.heap.size ≤ x) v1 (tickS H (L.take j) ++ [x])) ∧ Kd.R k36 36 w6 wo.heap.size (fun x => wo.heap.size ≤ x) u4 (outS H (L.take j)) ∧ Below wo.heap.size wo w6 from ⟨hR, Kd.R_over HNP.out.2 HNP.out.1 (fun q hq e => by have := only36 q hq; omega) hg, hb⟩)
          clear hR hb hg hat)
        go_roundw
        case rel => exact ⟨j + 1, by omega, by go_num, ⟨by rw [HS.out]; exact HR6.out.1, by rw [HO.out]; exact HR6.out.2.1, HR6.out.2.2⟩⟩
        case measure => simp [intOf]; omega
      · rw [decide_eq_false hh]
        by_cases h1 : x.f1 = 1
        · have HS := Aside0.mk (show tickS H (L.take (j + 1)) = tickS H (L.take j) by rw [HST.out]; unfold tick1S; rw [if_neg hh, if_pos h1]; simp)
          have HO := Aside0.mk (show outS H (L.take (j + 1)) = outS H (L.take j) ++ [x.f0] by rw [HSO.out, if_pos (by unfold runsS; simp [hh, h1])])
          rw [h1] at b5
          clear hh hl1 hl2 h1
          go_wp2_with (
            at_builtin; refine Kd.R_append k36 (w0 := wo) (W := (w5.setCell ⟨wr.heap.size, 5, none⟩ (.int .i64 0))) wo.heap.size rfl (.tmp 38) (.tmp 41) 30 36 (.agg #[.int .i64 0, .int .i64 0, .int .i64 0, .int .i64 0, .int .i64 0]) 40 rfl Try.underlying30 info36 rfl (by decide) (by decide) u4 (outS H (L.take j)) x.f0 [.int .i64 x.f0.f0, .int .i64 x.f0.f1.f0, .int .i64 x.f0.f1.f1, .int .i64 x.f0.f2, .int .i64 x.f0.f3] (fun x => wo.heap.size ≤ x) (fun _ => False) rfl (by first | rfl | simp [Act.eval, Act.put]) (k36_mkM _ _ _ _) (fun _ hk => hk.elim) (fun k hk => Nat.le_trans (HNS.out 0).2.2.size hk) (HNS.out 0).2.1 (HNS.out 0).2.2 (HNS.out 0).2.2.size HLen2.out ?_
            intro v1 w6 hR hb hg hat
            have HR6 := Aside0.mk (show Kd.R k36 36 w6 wo.heap.size (fun x => wo.heap.size ≤ x) v1 (outS H (L.take j) ++ [x.f0]) ∧ (Kd.R k85 85 w6 wo.heap.size (fun x => wo.heap.size ≤ x) u3 (tickS H (L.take j))) ∧ Below wo.heap.size wo w6 from ⟨hR, Kd.R_over (HNS.out 0).1 (HNS.out 0).2.1 (fun q hq e => by
              have : q ∈ [85] := hq
              have : q = 85 := by simpa using this
              omega) hg, hb⟩)
            clear hR hb hg hat)
          go_roundw
          case rel => exact ⟨j + 1, by omega, by go_num, ⟨by rw [HS.out]; exact HR6.out.2.1, by rw [HO.out]; exact HR6.out.1, HR6.out.2.2⟩⟩
          case measure => simp [intOf]; omega
        · have HS := Aside0.mk (show tickS H (L.take (j + 1)) = tickS H (L.take j) ++ [⟨x.f0, x.f1 - 1⟩] by rw [HST.out]; unfold tick1S; rw [if_neg hh, if_neg h1]; rfl)
          have HO := Aside0.mk (show outS H (L.take (j + 1)) = outS H (L.take j) by rw [HSO.out, if_neg (by unfold runsS; simp [h1]), List.append_nil])
          have hz1 : (x.f1 - 1 == 0) = false := beq_eq_false_iff_ne.mpr (by omega)
          clear hh h1
          go_wp2_with (
            at_builtin; refine Kd.R_append k85 (w0 := wo) (W := (w5.setCell ⟨wr.heap.size, 5, none⟩ (.int .i64 (x.f1 - 1)))) wo.heap.size rfl (.tmp 43) (.tmp 45) 81 85 (.agg #[.int .i64 0, .int .i64 0, .int .i64 0, .int .i64 0, .int .i64 0, .int .i64 0]) 48 rfl Try.underlying81 info85 rfl (by decide) (by decide) u3 (tickS H (L.take j)) (⟨x.f0, x.f1 - 1⟩ : S85) [.int .i64 x.f0.f0, .int .i64 x.f0.f1.f0, .int .i64 x.f0.f1.f1, .int .i64 x.f0.f2, .int .i64 x.f0.f3, .int .i64 (x.f1 - 1)] (fun x => wo.heap.size ≤ x) (fun _ => False) rfl (by first | rfl | simp [Act.eval, Act.put]) (k85_mkM _ _ _ _) (fun _ hk => hk.elim) (fun k hk => Nat.le_trans (HNS.out (x.f1 - 1)).2.2.size hk) (HNS.out (x.f1 - 1)).1 (HNS.out (x.f1 - 1)).2.2 (HNS.out (x.f1 - 1)).2.2.size HLen.out ?_
            intro v1 w6 hR hb hg hat
            have HR6 := Aside0.mk (show (Kd.R k85 85 w6 wo.heap.size (fun x => wo.heap.size ≤ x) v1 (tickS H (L.take j) ++ [⟨x.f0, x.f1 - 1⟩])) ∧ Kd.R k36 36 w6 wo.heap.size (fun x => wo.heap.size ≤ x) u4 (outS H (L.take j)) ∧ Below wo.heap.size wo w6 from ⟨hR, Kd.R_over (HNS.out (x.f1 - 1)).2.1 (HNS.out (x.f1 - 1)).1 (fun q hq e => by have := only36 q hq; omega) hg, hb⟩)
            clear hR hb hg hat)
          go_roundw
          case rel => exact ⟨j + 1, by omega, by go_num, ⟨by rw [HS.out]; exact HR6.out.1, by rw [HO.out]; exact HR6.out.2.1, HR6.out.2.2⟩⟩
          case measure => simp [intOf]; omega
    · obtain rfl : j = L.length := by omega
      have hN := HN.out
      rw [List.take_length] at hN
      obtain ⟨A, c, rfl, _⟩ := Kd.R_reads hN.1
      obtain ⟨Ao, co, rfl, _⟩ := Kd.R_reads hN.2.1
      have HF := Aside0.mk (HH2.out.put0 hN.2.2 hN.1)
      have HO := Aside0.mk (show Kd.R k36 36 (wr.setCell ⟨g, 0, none⟩ (.slice A (tickS H L).length c)) wo.heap.size (fun x => wo.heap.size ≤ x) (.slice Ao (outS H L).length co) (outS H L) from Kd.R_set hN.2.1 HCB.out (fun q hq e => by have := only36 q hq; omega) 0 _)
      have fz := blk_frozen HCB.out 0
      clear hN
      go_wp2_with fail
      go_ret
      exact ⟨Ao, co, rfl, HO.out, HF.out.1, HF.out.2⟩
end Go.Proofs.Ytkndjjceijfdgaa.PAll

