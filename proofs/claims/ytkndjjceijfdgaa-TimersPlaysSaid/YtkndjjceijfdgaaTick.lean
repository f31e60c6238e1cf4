/- The contract of Tick. -/
import Derived.Test.YtkndjjceijfdgaaCon4
import Derived.Deep.RegionLaw
namespace Go.Proofs.Ytkndjjceijfdgaa.PAll
open Go.RowKit Go.Proofs.YtkndjjceijfdgaaW.PrintWords Go.Proofs.YtkndjjceijfdgaaW.PrintLast Go.Proofs.YtkndjjceijfdgaaW.PrintMore Go.Proofs.YtkndjjceijfdgaaM
set_option linter.unusedVariables false
set_option linter.unusedSimpArgs false
variable {w : World} {b bl bh : Nat} {T : List (S36 × Int)} {Hd : List Int}
def goodT (T : List (S36 × Int)) : Prop := ∀ p ∈ T, WK p.1 ∧ 1 ≤ p.2 ∧ p.2 ≤ 1048576
def tick1 (Hd : List Int) (p : S36 × Int) : Option (S36 × Int) := if p.1.f0 ∈ Hd then some p else if p.2 = 1 then none else some (p.1, p.2 - 1)
def tickT (Hd : List Int) (T : List (S36 × Int)) : List (S36 × Int) := T.filterMap (tick1 Hd)
def runs (Hd : List Int) (p : S36 × Int) : Bool := !decide (p.1.f0 ∈ Hd) && decide (p.2 = 1)
def outT (Hd : List Int) (T : List (S36 × Int)) : List S36 := (T.filter (runs Hd)).map (·.1)
theorem sortK_congr {xs ys : List S36} (h : xs.Perm ys) : sortK xs = sortK ys := by
  have h1 : (sortK xs).Perm (sortK ys) := (sortK_perm xs).trans (h.trans (sortK_perm ys).symm)
  refine h1.eq_of_pairwise (le := fun x y => ¬ KLt y x) ?_ (sortK_sorted xs) (sortK_sorted ys)
  intro a c _ _ h1 h2
  exact totK a c ((kltB_false _ _).2 h2) ((kltB_false _ _).2 h1)
theorem held_look {w W : World} (h : MapAt Try.prog 3 w bh (Hd.map hp)) (hW : W.heap[bh]? = w.heap[bh]?) {n : Int} (hn : W64 n) :
    (Instr.lookup 71 (.map (some bh)) (.int .i64 n) true).run Try.prog W = .ok (.tuple #[.agg #[], .bool (decide (n ∈ Hd))]) W := by
  have hA : MapAt Try.prog 3 W bh (Hd.map hp) := h.same hW
  rcases hA.look true law3 Try.underlying71 (zero74 W) (key3 hn) with ⟨hrun, hno⟩ | ⟨v, hv, hrun⟩
  · have : n ∉ Hd := fun hin => hno _ (mem_hp.2 ⟨rfl, hin⟩)
    rw [decide_eq_false this]; exact hrun
  · obtain ⟨rfl, hin⟩ := mem_hp.1 hv
    rw [decide_eq_true hin]; exact hrun
theorem own_form {x : Value} {base : Nat} {ok : Nat → Prop} {xs : List S36} (h : Kd.R k36 36 w base ok x xs) : (x = .slice none 0 0 ∧ xs = []) ∨ ∃ g cap, x = .slice (some ⟨g, 0, none⟩) xs.length cap := by
  have h' := h
  obtain ⟨hok, inner, ho, _⟩ := h
  rcases ho.2 with ⟨hv, _⟩ | ⟨g', cap', cur, hv, _⟩
  · subst hv
    have := (Kd.R_reads' h').1
    exact .inl ⟨rfl, List.length_eq_zero_iff.1 this.symm⟩
  · subst hv
    have := (Kd.R_reads' h').1
    rw [← this]
    exact .inr ⟨g', cap', rfl⟩
theorem sorted_any (B : Nat) (w : World) (base : Nat) (ok : Nat → Prop) (xs : List S36) (x : Value) (hB : w.heap[B]? = some (.cells #[x, .func (.func 31) #[] #[]] 79))
    (h : Kd.R k36 36 w base ok x xs) (hne : some B ≠ x.ownBlock) (hl : xs.length < 4611686018427387904) :
    Calls Try.prog 32 #[.pointer (some ⟨B, 0, none⟩)] w fun e w' => e = .returned x ∧ Kd.R k36 36 w' base ok x (sortK xs) ∧ w.grownBy w' x.ownBlock := by
  have c0 : w.cell? ⟨B, 0, none⟩ = some x := by rw [blk_cell hB 0]; rfl
  have c1 : w.cell? ⟨B, 1, none⟩ = some (.func (.func 31) #[] #[]) := by rw [blk_cell hB 1]; rfl
  have hlt : B < w.heap.size := (Array.getElem?_eq_some_iff.1 hB).1
  rcases own_form h with ⟨rfl, rfl⟩ | ⟨g, cap, rfl⟩
  · have HR := Aside0.mk h
    clear h hB hne
    go_enter Try.func32, Try.ntmps32
    go_wp2
    go_region_with (go_at_call 44; refine (sort_none _ _).mono ?_; rintro e w1 ⟨rfl, rfl⟩)
    all_goals
      go_wp2
      go_ret
      exact ⟨rfl, by rw [show sortK [] = [] from List.Perm.eq_nil (sortK_perm [])]; exact Kd.R_below HR.out (Below.refl _ _).drew, grown_of_below (Below.refl _ _).drew _⟩
  · have HR := Aside0.mk (Kd.R_below h (Below.refl _ _).drew)
    have HB := Aside0.mk hB
    have hg : B ≠ g := by simpa [Value.ownBlock] using hne
    clear h hB hne
    go_enter Try.func32, Try.ntmps32
    go_wp2
    go_region_with (
      go_at_call 44; refine (sort_any _ base g _ cap ok xs HR.out hl).mono ?_; rintro e w1 ⟨rfl, hR1, hg1⟩
      have c2 : w1.cell? ⟨B, 0, none⟩ = some (.slice (some ⟨g, 0, none⟩) xs.length cap) := by rw [blk_cell ((hg1.block B hlt (by simpa using hg)).trans HB.out) 0]; rfl
      have HR1 := Aside0.mk hR1; have HG := Aside0.mk hg1; clear hR1 hg1)
    all_goals
      go_wp2
      go_ret
      exact ⟨rfl, HR1.out, (grown_of_below (Below.refl _ _).drew _).trans HG.out⟩
end Go.Proofs.Ytkndjjceijfdgaa.PAll
