/- Sorting a row of keys that the call owns: slices.SortFunc with the order of keys. -/
import Derived.Test.YtkndjjceijfdgaaBase
import Derived.Test.YtkndjjceijfdgaaLaid
namespace Go.Proofs.Ytkndjjceijfdgaa.PAll
open Go.RowKit Go.Proofs.YtkndjjceijfdgaaW.PrintWords Go.Proofs.YtkndjjceijfdgaaW.PrintLast Go.Proofs.YtkndjjceijfdgaaW.PrintMore Go.Proofs.YtkndjjceijfdgaaM
open Go.Sort Go.Proofs
set_option linter.unusedVariables false
set_option linter.unusedSimpArgs false
instance : Inhabited S36 := ⟨z36⟩
def encK (k : S36) : List Value := [.int .i64 k.f0, .int .i64 k.f1.f0, .int .i64 k.f1.f1, .int .i64 k.f2, .int .i64 k.f3]
theorem encK_len (k : S36) : (encK k).length = 5 := rfl
theorem encK_one (k : S36) : ∀ v ∈ encK k, v.oneCell' = true := by
  intro v hv
  simp only [encK, List.mem_cons, List.not_mem_nil, or_false] at hv
  rcases hv with rfl | rfl | rfl | rfl | rfl <;> rfl
theorem R36_of_cells {W : World} {base g n cap : Nat} {ok : Nat → Prop} {cur : Array Value} {xs : List S36} (hb : base ≤ g) (hok : ok g) (hh : W.heap[g]? = some (.cells cur 36 (0, 0))) (hn : xs.length = n) (hc : n ≤ cap) (hm : cap ≤ maxLen) (hs : cur.size = cap * 5)
    (hcell : ∀ i x c v, xs[i]? = some x → (encK x)[c]? = some v → W.cell? ⟨g, i * 5 + c, none⟩ = some v) : Kd.R k36 36 W base ok (.slice (some ⟨g, 0, none⟩) n cap) xs := by
  subst hn
  have hle : xs.length * 5 ≤ cur.size := by omega
  have hcl : cur.toList.length = cur.size := Array.length_toList
  have hcur : ∀ o, W.cell? ⟨g, o, none⟩ = cur[o]? := fun o => cell_of_row W g o cur 36 (0, 0) hh
  refine ⟨fun k hk => ?_, cur.toList.take (xs.length * 5), ⟨?_, .inr ⟨g, cap, cur, rfl, hb, hh, hc, hm, hs, rfl⟩⟩, ?_, ?_⟩
  · have : g = k := by simpa [Value.ownBlock] using hk
    exact this ▸ hok
  · rw [List.length_take]; show min _ cur.toList.length = _ * 5; omega
  · rw [List.length_take]; show min _ cur.toList.length = _ * 5; omega
  · intro j p hp
    have hj : j < xs.length := (List.getElem?_eq_some_iff.1 hp).1
    have e : ((cur.toList.take (xs.length * 5)).drop (j * 5)).take 5 = encK p := by
      apply List.ext_getElem?
      intro i
      by_cases hi : i < 5
      · rw [List.getElem?_take, if_pos hi, List.getElem?_drop, List.getElem?_take, if_pos (by omega), Array.getElem?_toList, ← hcur]
        obtain ⟨v, hv⟩ : ∃ v, (encK p)[i]? = some v := ⟨(encK p)[i]'(by rw [encK_len]; exact hi), List.getElem?_eq_getElem _⟩
        rw [hv]; exact hcell j p i v hp hv
      · rw [List.getElem?_take, if_neg hi, List.getElem?_eq_none (by rw [encK_len]; omega)]
    show k36.M W base _ p _
    have e5 : k36.sz = 5 := rfl
    rw [e5, e]
    exact k36_mkM W base _ p

theorem holds36 {W : World} {base g n cap : Nat} {ok : Nat → Prop} {xs : List S36} (h : Kd.R k36 36 W base ok (.slice (some ⟨g, 0, none⟩) n cap) xs) : HoldsK encK 5 W g 0 xs.toArray := by
  have hn := (Kd.R_reads' h).1
  intro t ht
  rw [size_flatK] at ht
  rw [get_flatK _ _ _ _ ht]
  have hi : t / 5 < xs.length := by
    rw [List.size_toArray] at ht
    omega
  obtain ⟨c, hc, hM, hcell, hfr⟩ := Kd.R_elem h z36 ((t / 5 : Nat) : Int) (by omega) (by omega)
  obtain rfl := k36_openM hM
  have e1 : (0 + t) = ((t / 5 : Nat) : Int).toNat * k36.sz + t % 5 := by
    show 0 + t = ((t / 5 : Nat) : Int).toNat * 5 + t % 5
    rw [Int.toNat_natCast]; omega
  rw [e1]
  refine ⟨?_, hfr _⟩
  have e2 : xs.toArray[t / 5]! = xs.getD ((t / 5 : Nat) : Int).toNat z36 := by
    rw [Int.toNat_natCast, List.getD_eq_getElem?_getD]
    simp [hi]
  rw [e2]
  generalize xs.getD ((t / 5 : Nat) : Int).toNat z36 = x at hcell
  have hlt : t % 5 < (encK x).length := by rw [encK_len]; omega
  refine hcell _ _ ?_
  show (encK x)[t % 5]? = some (encK x)[t % 5]!
  rw [List.getElem!_eq_getElem?_getD, List.getElem?_eq_getElem hlt]; rfl
theorem sortK_block {w : World} {g m : Nat} {d' : Array S36} {os : Array Obj} {cur : Array Value} (hh : w.heap[g]? = some (.cells cur 36 (0, 0))) : ∃ cur', (sortWorldK encK 5 w g 0 m d' os).heap[g]? = some (.cells cur' 36 (0, 0)) ∧ cur'.size = cur.size := by
  have hlt := (Array.getElem?_eq_some_iff.1 hh).1
  refine ⟨putCells id 0 (flatK encK 5 d') cur, ?_, by simp [putCells]⟩
  unfold sortWorldK grow
  simp only
  rw [Array.getElem?_append_left (by rw [size_putRowK]; exact hlt)]
  show ((Sort.ahead w m).heap.modify g (onCells (putCells id 0 (flatK encK 5 d'))))[g]? = _
  rw [Array.getElem?_modify, if_pos rfl]
  show (w.heap[g]?).map _ = _
  rw [hh]; rfl
theorem sortK_other {w : World} {g m k : Nat} {d' : Array S36} {os : Array Obj} (hk : k ≠ g) (hlt : k < w.heap.size) : (sortWorldK encK 5 w g 0 m d' os).heap[k]? = w.heap[k]? := by
  unfold sortWorldK grow
  simp only
  rw [Array.getElem?_append_left (by rw [size_putRowK]; exact hlt)]
  show ((Sort.ahead w m).heap.modify g (onCells (putCells id 0 (flatK encK 5 d'))))[k]? = _
  rw [Array.getElem?_modify, if_neg (fun e => hk e.symm)]
  rfl
theorem sortK_grown {w : World} {g m : Nat} {d' : Array S36} {os : Array Obj} : w.grownBy (sortWorldK encK 5 w g 0 m d' os) (some g) := by
  refine ⟨rfl, rfl, rfl, ?_, fun k hk hne => sortK_other (fun e => hne (by rw [e])) hk⟩
  unfold sortWorldK grow
  simp only [Array.size_append, size_putRowK]
  exact Nat.le_add_right _ _
/-- Before: the order of keys, as a Bool. -/
def kltB (a b : S36) : Bool := ltOf ordI a b
theorem sortK_row {w : World} {base g n cap m : Nat} {ok : Nat → Prop} {xs ys : List S36} {os : Array Obj} (h : Kd.R k36 36 w base ok (.slice (some ⟨g, 0, none⟩) n cap) xs) (hl : ys.length = xs.length) :
    Kd.R k36 36 (sortWorldK encK 5 w g 0 m ys.toArray os) base ok (.slice (some ⟨g, 0, none⟩) n cap) ys := by
  have hn := (Kd.R_reads' h).1
  have hH := holds36 h
  obtain ⟨hok, inner, ho, _⟩ := h
  rcases ho.2 with ⟨hv, _⟩ | ⟨g', cap', cur, hv, hb, hh, hnc, hcm, hcs, _⟩
  · cases hv
  have hg : g = g' ∧ cap = cap' := by
    injection hv with h1 _ h3
    injection h1 with h1
    injection h1 with h1
    exact ⟨h1, h3⟩
  obtain ⟨rfl, rfl⟩ := hg
  have hlt := (Array.getElem?_eq_some_iff.1 hh).1
  obtain ⟨cur', hh', hs'⟩ := sortK_block (m := m) (d' := ys.toArray) (os := os) hh
  have hK := holdsK_sortWorldK encK 5 w g 0 m xs.toArray ys.toArray os hlt hH (by simpa using hl)
  refine R36_of_cells hb (hok g (by simp [Value.ownBlock])) hh' (by omega) (hn ▸ hnc) hcm (by rw [hs', hcs]; rfl) ?_
  intro i x c v hx hv
  have hi : i < ys.length := (List.getElem?_eq_some_iff.1 hx).1
  have hc5 : c < 5 := by have := (List.getElem?_eq_some_iff.1 hv).1; rwa [encK_len] at this
  have hcl := (Go.Sort.HoldsK.cell (i := i) (c := c) hK (by simpa using hi) hc5).1
  have e1 : ys.toArray[i]! = x := by
    rw [List.getElem?_eq_getElem hi] at hx
    simp only [List.getElem!_toArray, List.getElem!_eq_getElem?_getD, List.getElem?_eq_getElem hi, Option.getD_some]
    exact Option.some.inj hx
  rw [e1] at hcl
  have e2 : (encK x)[c]! = v := by rw [List.getElem!_eq_getElem?_getD, hv]; rfl
  rw [e2, Nat.zero_add] at hcl
  exact hcl

/-! The order is total -/
theorem cmpI_neg (x y : Int) : (Lib.compareInt x y < 0 ↔ x < y) ∧ (Lib.compareInt x y = 0 ↔ x = y) ∧ (0 < Lib.compareInt x y ↔ y < x) := by
  unfold Lib.compareInt
  by_cases h1 : x < y
  · simp [h1]; omega
  · by_cases h2 : y < x <;> simp [h1, h2] <;> omega
/-- The order of keys, in numbers. -/
def KLt (a b : S36) : Prop :=
  a.f0 < b.f0 ∨ a.f0 = b.f0 ∧ (a.f1.f0 < b.f1.f0 ∨ a.f1.f0 = b.f1.f0 ∧ (a.f1.f1 < b.f1.f1 ∨ a.f1.f1 = b.f1.f1 ∧ (a.f2 < b.f2 ∨ a.f2 = b.f2 ∧ a.f3 < b.f3)))
theorem kltB_iff (a b : S36) : kltB a b = true ↔ KLt a b := by
  unfold kltB ltOf ordI KLt
  obtain ⟨p0, q0, r0⟩ := cmpI_neg a.f0 b.f0
  obtain ⟨p1, q1, r1⟩ := cmpI_neg a.f1.f0 b.f1.f0
  obtain ⟨p2, q2, r2⟩ := cmpI_neg a.f1.f1 b.f1.f1
  obtain ⟨p3, q3, r3⟩ := cmpI_neg a.f2 b.f2
  obtain ⟨p4, q4, r4⟩ := cmpI_neg a.f3 b.f3
  generalize Lib.compareInt a.f0 b.f0 = x0 at *
  generalize Lib.compareInt a.f1.f0 b.f1.f0 = x1 at *
  generalize Lib.compareInt a.f1.f1 b.f1.f1 = x2 at *
  generalize Lib.compareInt a.f2 b.f2 = x3 at *
  generalize Lib.compareInt a.f3 b.f3 = x4 at *
  rw [decide_eq_true_iff]
  simp only [firstOf]
  by_cases z0 : x0 = 0
  · rw [if_pos z0]
    by_cases z1 : x1 = 0
    · rw [if_pos z1]
      by_cases z2 : x2 = 0
      · rw [if_pos z2]
        by_cases z3 : x3 = 0
        · rw [if_pos z3]
          by_cases z4 : x4 = 0
          · rw [if_pos z4]; omega
          · rw [if_neg z4]; omega
        · rw [if_neg z3]; omega
      · rw [if_neg z2]; omega
    · rw [if_neg z1]; omega
  · rw [if_neg z0]; omega
theorem kltB_false (a b : S36) : kltB a b = false ↔ ¬ KLt a b := by
  rw [← kltB_iff]; cases kltB a b <;> simp
theorem S36_ext {a b : S36} (h0 : a.f0 = b.f0) (h1 : a.f1.f0 = b.f1.f0) (h2 : a.f1.f1 = b.f1.f1) (h3 : a.f2 = b.f2) (h4 : a.f3 = b.f3) : a = b := by
  obtain ⟨a0, ⟨a1, a2⟩, a3, a4⟩ := a
  obtain ⟨b0, ⟨b1, b2⟩, b3, b4⟩ := b
  simp only at h0 h1 h2 h3 h4
  subst h0 h1 h2 h3 h4
  rfl
theorem swoK : SWO (ltOf ordI) where
  irrefl x := (kltB_false x x).2 (by unfold KLt; omega)
  trans x y z h1 h2 := (kltB_iff x z).2 (by have := (kltB_iff x y).1 h1; have := (kltB_iff y z).1 h2; unfold KLt at *; omega)
  ntrans x y z h1 h2 := (kltB_false x z).2 (by have := (kltB_false x y).1 h1; have := (kltB_false y z).1 h2; unfold KLt at *; omega)
theorem totK (x y : S36) (h1 : ltOf ordI x y = false) (h2 : ltOf ordI y x = false) : x = y := by
  have h1 := (kltB_false x y).1 h1
  have h2 := (kltB_false y x).1 h2
  unfold KLt at h1 h2
  exact S36_ext (by omega) (by omega) (by omega) (by omega) (by omega)
/-- The keys in order. -/
def sortK (xs : List S36) : List S36 := xs.mergeSort fun x y => !kltB y x
theorem sortK_perm (xs : List S36) : (sortK xs).Perm xs := List.mergeSort_perm _ _
theorem sortK_sorted (xs : List S36) : (sortK xs).Pairwise fun x y => ¬ KLt y x := by
  have h := List.pairwise_mergeSort (le := fun x y => !kltB y x) (fun a b c h1 h2 => by
    simp only [Bool.not_eq_true', kltB_false] at h1 h2 ⊢
    unfold KLt at *; omega) (fun a b => by
    simp only [Bool.or_eq_true, Bool.not_eq_true', kltB_false]
    unfold KLt; omega) xs
  refine h.imp (fun {a b} hab => ?_)
  simpa only [Bool.not_eq_true', kltB_false] using hab
theorem isAgg36 (w : World) : (isAgg 36).run Try.prog w = .ok true w := by kernel_rfl
theorem sizeOf36 (w : World) : (Go.sizeOf 36).run Try.prog w = .ok 5 w := by kernel_rfl
theorem cmpLays31 (blk off size : Nat) (w : World) : CmpLays Try.prog 31 #[] encK 5 ordI blk off size w :=
  fun _ _ _ _ x y => order_any x y _
/-- slices.SortFunc over a row of keys of the call's own. -/
theorem sort_any (w : World) (base g n cap : Nat) (ok : Nat → Prop) (xs : List S36) (h : Kd.R k36 36 w base ok (.slice (some ⟨g, 0, none⟩) n cap) xs) (hl : xs.length < 4611686018427387904) :
    Calls Try.prog 44 #[.slice (some ⟨g, 0, none⟩) n cap, .func (.func 31) #[] #[]] w fun e w' => e = .returned (.tuple #[]) ∧ Kd.R k36 36 w' base ok (.slice (some ⟨g, 0, none⟩) n cap) (sortK xs) ∧ w.grownBy w' (some g) := by
  have eg : ∀ args w, (callFunc 31 args).run Try.prog w = .ok (.enter 31 args) w := enters_of Try.func31 (by kernel_rfl) rfl
  have hlt : g < w.heap.size := Kd.R_lt h g (by simp [Value.ownBlock])
  have hn := (Kd.R_reads' h).1
  have hcon := AnyQ.slices_SortFunc_total Try.sortKey 5 isAgg36 sizeOf36 encK encK_len encK_one ordI swoK 31 #[] g 0 cap xs.toArray w eg (cmpLays31 g 0 _ w) (holds36 h) hlt (by simpa using hl) totK
  change Calls Try.prog 44 _ _ _ at hcon
  rw [List.size_toArray, ← hn] at hcon
  refine hcon.mono ?_
  rintro e w' ⟨rfl, m, os, rfl⟩
  exact ⟨rfl, sortK_row h (sortK_perm xs).length_eq, sortK_grown⟩

/-- .. or over none. -/
theorem sort_none (w : World) (fv : Value) : Calls Try.prog 44 #[.slice none 0 0, fv] w fun e w' => e = .returned (.tuple #[]) ∧ w' = w := by
  have hcon := AnyF.slices_SortFunc_none Try.sortKey none 0 fv w
  change Calls Try.prog 44 _ _ _ at hcon
  exact hcon
end Go.Proofs.Ytkndjjceijfdgaa.PAll
