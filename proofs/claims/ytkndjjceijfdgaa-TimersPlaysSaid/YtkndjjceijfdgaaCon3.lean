/- Contracts of Start and Stop. -/
import Derived.Test.YtkndjjceijfdgaaCon2
import Derived.StillTailTactics
namespace Go.Proofs.Ytkndjjceijfdgaa.PAll
open Go.RowKit Go.Proofs.YtkndjjceijfdgaaW.PrintWords Go.Proofs.YtkndjjceijfdgaaW.PrintLast Go.Proofs.YtkndjjceijfdgaaW.PrintMore Go.Proofs.YtkndjjceijfdgaaM
set_option linter.unusedVariables false
set_option linter.unusedSimpArgs false
variable {w : World} {b bl bh : Nat} {T : List (S36 × Int)} {Hd : List Int}
theorem grown_of_below {w w' : World} (h : Below w.heap.size w w') (row : Option Nat) : w.grownBy w' row := ⟨h.os, h.tape, h.output, h.size, fun i hi _ => h.block i hi⟩
def delT (T : List (S36 × Int)) (k : S36) : List (S36 × Int) := T.filter (fun p => !decide (p.1 = k))
def putT (T : List (S36 × Int)) (k : S36) (n : Int) : List (S36 × Int) := (k, n) :: delT T k
theorem delT_none {k : S36} (h : k ∉ keysT T) : delT T k = T := by
  unfold delT
  rw [List.filter_eq_self]
  intro p hp
  have : p.1 ≠ k := fun e => h (List.mem_map.2 ⟨p, hp, e⟩)
  simp [this]
theorem delT_old {k : S36} {n : Int} {T1 : List (S36 × Int)} (hn : (keysT T).Nodup) (hp : T.Perm ((k, n) :: T1)) : (delT T k).Perm T1 ∧ T.length = T1.length + 1 := by
  refine ⟨?_, hp.length_eq⟩
  have h1 : (keysT ((k, n) :: T1)).Nodup := (List.Perm.nodup_iff (hp.map _)).1 hn
  have h2 : k ∉ keysT T1 := (List.nodup_cons.1 h1).1
  have := hp.filter (fun p => !decide (p.1 = k))
  unfold delT
  refine this.trans ?_
  rw [List.filter_cons_of_neg (by simp)]
  have := delT_none h2
  unfold delT at this
  rw [this]
theorem mem_delT {k : S36} {p : S36 × Int} : p ∈ delT T k ↔ p ∈ T ∧ p.1 ≠ k := by unfold delT; simp
theorem delT_len (k : S36) : (delT T k).length ≤ T.length := List.length_filter_le _ _
theorem TAt.put (h : TAt w b bl bh T Hd) (k : S36) (hk : WK k) (n : Int) (hr : T.length < maxLen) :
    ∃ w', (Instr.mapUpdate 70 (.map (some bl)) (kv k) (.int .i64 n)).run Try.prog w = .ok () w' ∧ TAt w' b bl bh (putT T k n) Hd ∧ w.grownBy w' (some bl) := by
  obtain ⟨l, hl⟩ := key36 k hk
  by_cases hin : k ∈ keysT T
  · unfold keysT at hin
    obtain ⟨⟨k', m⟩, hm, rfl⟩ := List.mem_map.1 hin
    obtain ⟨T1, hp⟩ := perm_of_mem hm
    obtain ⟨w', hrun, hA, ht⟩ := h.2.1.put_old (val := .int .i64 n) law36 Try.underlying70 hl (v := .int .i64 m) (L1 := T1.map tp) (hp.map tp)
    refine ⟨w', hrun, (h.turned_l (T' := (k', n) :: T1) hA ht.grown).perm ?_, ht.grown⟩
    exact ((delT_old h.nodup hp).1).cons _
  · obtain ⟨w', hrun, hA, ht⟩ := h.2.1.put_new (val := .int .i64 n) law36 Try.underlying70 (by rw [List.length_map]; exact hr) hl (fun v hv => by
      obtain ⟨n', rfl, hm⟩ := mem_tp.1 hv
      exact hin (List.mem_map.2 ⟨_, hm, rfl⟩))
    refine ⟨w', hrun, (h.turned_l (T' := (k, n) :: T) hA ht.grown).perm ?_, ht.grown⟩
    unfold putT
    rw [delT_none hin]
theorem TAt.del (h : TAt w b bl bh T Hd) (k : S36) (hk : WK k) :
    ∃ w', (Builtin.delete_ #[70, 36] 0 #[.map (some bl), kv k]).run Try.prog w = .ok (.tuple #[]) w' ∧ TAt w' b bl bh (delT T k) Hd ∧ w.grownBy w' (some bl) := by
  obtain ⟨l, hl⟩ := key36 k hk
  by_cases hin : k ∈ keysT T
  · unfold keysT at hin
    obtain ⟨⟨k', m⟩, hm, rfl⟩ := List.mem_map.1 hin
    obtain ⟨T1, hp⟩ := perm_of_mem hm
    obtain ⟨w', hrun, hA, ht⟩ := h.2.1.del_old law36 Try.underlying70 hl (v := .int .i64 m) (L1 := T1.map tp) (hp.map tp) 0
    refine ⟨w', hrun, (h.turned_l (T' := T1) hA ht.grown).perm ?_, ht.grown⟩
    exact (delT_old h.nodup hp).1
  · obtain ⟨w', hrun, hA, ht⟩ := h.2.1.del_none law36 Try.underlying70 hl (fun v hv => by
      obtain ⟨n', rfl, hm⟩ := mem_tp.1 hv
      exact hin (List.mem_map.2 ⟨_, hm, rfl⟩)) 0
    refine ⟨w', hrun, (h.turned_l (T' := T) hA ht.grown).perm ?_, ht.grown⟩
    rw [delT_none hin]
theorem box36 {w : World} {B : Nat} {k : S36} (h : w.heap[B]? = some (.cells #[.int .i64 k.f0, .int .i64 k.f1.f0, .int .i64 k.f1.f1, .int .i64 k.f2, .int .i64 k.f3] 36)) :
    w.cell? ⟨B, 0, none⟩ = some (.int .i64 k.f0) ∧ w.cell? ⟨B, 1, none⟩ = some (.int .i64 k.f1.f0) ∧ w.cell? ⟨B, 2, none⟩ = some (.int .i64 k.f1.f1) ∧ w.cell? ⟨B, 3, none⟩ = some (.int .i64 k.f2) ∧ w.cell? ⟨B, 4, none⟩ = some (.int .i64 k.f3) :=
  ⟨by rw [blk_cell h 0]; rfl, by rw [blk_cell h 1]; rfl, by rw [blk_cell h 2]; rfl, by rw [blk_cell h 3]; rfl, by rw [blk_cell h 4]; rfl⟩
/-- What Start answers. -/
def startE (k : S36) (n : Int) : Int := if mayB k then (if n < 1 ∨ 1048576 < n then 1 else 0) else 100
def startT (T : List (S36 × Int)) (k : S36) (n : Int) : List (S36 × Int) := if startE k n = 0 then putT T k n else T
theorem startE_no {k : S36} {n : Int} (h : mayB k = false) : startE k n = 100 := by unfold startE; rw [h]; rfl
theorem startE_arg {k : S36} {n : Int} (h : mayB k = true) (h2 : n < 1 ∨ 1048576 < n) : startE k n = 1 := by unfold startE; rw [h, if_pos rfl, if_pos h2]
theorem startE_ok {k : S36} {n : Int} (h : mayB k = true) (h2 : ¬ n < 1) (h3 : ¬ 1048576 < n) : startE k n = 0 := by unfold startE; rw [h, if_pos rfl, if_neg (by omega)]
theorem start_no (h : TAt w b bl bh T Hd) (k : S36) (n : Int) (hm : mayB k = false) :
    Calls Try.prog 12 #[.pointer (some ⟨b, 0, none⟩), kv k, .int .i64 n] w fun e w' => e = .returned (.int .i64 100) ∧ TAt w' b bl bh T Hd ∧ w.grownBy w' (some bl) := by
  have HH := Aside0.mk h
  clear h
  unfold kv
  go_enter Try.func12, Try.ntmps12
  go_wp2_with (go_at_call 29; refine (may_any k _).mono ?_; rintro e w1 ⟨rfl, hb1⟩; rw [hm]; have HB := Aside0.mk hb1; clear hb1)
  go_ret
  have hb := (below_alloc (Below.refl w.heap.size w) (.cells #[.int .i64 k.f0, .int .i64 k.f1.f0, .int .i64 k.f1.f1, .int .i64 k.f2, .int .i64 k.f3] 36)).trans (HB.out.mono (by simp))
  exact ⟨rfl, HH.out.below hb, grown_of_below hb _⟩
theorem start_arg (h : TAt w b bl bh T Hd) (k : S36) (n : Int) (hm : mayB k = true) (h2 : n < 1 ∨ 1048576 < n) :
    Calls Try.prog 12 #[.pointer (some ⟨b, 0, none⟩), kv k, .int .i64 n] w fun e w' => e = .returned (.int .i64 1) ∧ TAt w' b bl bh T Hd ∧ w.grownBy w' (some bl) := by
  have HH := Aside0.mk h
  clear h
  unfold kv
  by_cases hn : n < 1
  · have e1 : decide (n < 1) = true := decide_eq_true hn
    clear h2
    go_enter Try.func12, Try.ntmps12
    go_wp2_with (go_at_call 29; refine (may_any k _).mono ?_; rintro e w1 ⟨rfl, hb1⟩; rw [hm]; have HB := Aside0.mk hb1; clear hb1)
    go_ret
    have hb := (below_alloc (Below.refl w.heap.size w) (.cells #[.int .i64 k.f0, .int .i64 k.f1.f0, .int .i64 k.f1.f1, .int .i64 k.f2, .int .i64 k.f3] 36)).trans (HB.out.mono (by simp))
    exact ⟨rfl, HH.out.below hb, grown_of_below hb _⟩
  · have h3 : 1048576 < n := h2.resolve_left hn
    have e1 : decide (n < 1) = false := decide_eq_false hn
    have e2 : decide (1048576 < n) = true := decide_eq_true h3
    clear h2
    go_enter Try.func12, Try.ntmps12
    go_wp2_with (go_at_call 29; refine (may_any k _).mono ?_; rintro e w1 ⟨rfl, hb1⟩; rw [hm]; have HB := Aside0.mk hb1; clear hb1)
    go_ret
    have hb := (below_alloc (Below.refl w.heap.size w) (.cells #[.int .i64 k.f0, .int .i64 k.f1.f0, .int .i64 k.f1.f1, .int .i64 k.f2, .int .i64 k.f3] 36)).trans (HB.out.mono (by simp))
    exact ⟨rfl, HH.out.below hb, grown_of_below hb _⟩
theorem start_ok (h : TAt w b bl bh T Hd) (k : S36) (hk : WK k) (n : Int) (hm : mayB k = true) (h2 : ¬ n < 1) (h3 : ¬ 1048576 < n) (hr : T.length < maxLen) :
    Calls Try.prog 12 #[.pointer (some ⟨b, 0, none⟩), kv k, .int .i64 n] w fun e w' => e = .returned (.int .i64 0) ∧ TAt w' b bl bh (putT T k n) Hd ∧ w.grownBy w' (some bl) := by
  have HH := Aside0.mk h
  clear h
  have e1 : decide (n < 1) = false := decide_eq_false h2
  have e2 : decide (1048576 < n) = false := decide_eq_false h3
  have HK := Aside0.mk hk
  clear hk
  unfold kv
  go_enter Try.func12, Try.ntmps12
  go_wp2_with (
    go_at_call 29; refine (may_any k _).mono ?_; rintro e w1 ⟨rfl, hb1⟩; rw [hm]
    have hb := (below_alloc (Below.refl w.heap.size w) (.cells #[.int .i64 k.f0, .int .i64 k.f1.f0, .int .i64 k.f1.f1, .int .i64 k.f2, .int .i64 k.f3] 36)).trans (hb1.mono (by simp))
    have c0 := (HH.out.below hb).cells.1
    obtain ⟨d0, d1, d2, d3, d4⟩ := box36 <| (hb1.block w.heap.size (by simp)).trans (heap_alloc_new w (.cells #[.int .i64 k.f0, .int .i64 k.f1.f0, .int .i64 k.f1.f1, .int .i64 k.f2, .int .i64 k.f3] 36))
    obtain ⟨w2, hrun, hm2⟩ := ((HH.out.below hb).same (w' := w1.drew) rfl rfl rfl).put k HK.out n hr
    unfold kv at hrun
    have HB := Aside0.mk hb; have HM := Aside0.mk hm2; clear hb1 hb hm2)
  go_region
  go_wp2
  go_ret
  exact ⟨rfl, HM.out.1, (grown_of_below HB.out.drew _).trans HM.out.2⟩
theorem start_any (h : TAt w b bl bh T Hd) (k : S36) (hk : WK k) (n : Int) (hr : T.length < maxLen) :
    Calls Try.prog 12 #[.pointer (some ⟨b, 0, none⟩), kv k, .int .i64 n] w fun e w' => e = .returned (.int .i64 (startE k n)) ∧ TAt w' b bl bh (startT T k n) Hd ∧ w.grownBy w' (some bl) := by
  unfold startT
  cases hm : mayB k with
  | false => rw [startE_no hm]; exact start_no h k n hm
  | true =>
    by_cases h2 : n < 1 ∨ 1048576 < n
    · rw [startE_arg hm h2]; exact start_arg h k n hm h2
    · rw [startE_ok hm (fun e => h2 (.inl e)) (fun e => h2 (.inr e))]
      exact start_ok h k hk n hm (fun e => h2 (.inl e)) (fun e => h2 (.inr e)) hr
theorem stop_any (h : TAt w b bl bh T Hd) (k : S36) (hk : WK k) :
    Calls Try.prog 22 #[.pointer (some ⟨b, 0, none⟩), kv k] w fun e w' => e = .returned (.bool (decide (k ∈ keysT T))) ∧ TAt w' b bl bh (delT T k) Hd ∧ w.grownBy w' (some bl) := by
  have hb := below_alloc (Below.refl w.heap.size w) (.cells #[.int .i64 k.f0, .int .i64 k.f1.f0, .int .i64 k.f1.f1, .int .i64 k.f2, .int .i64 k.f3] 36)
  have h1 := h.below hb
  have c0 := h1.cells.1
  obtain ⟨n, hl⟩ : ∃ n : Int, ∀ m, (Instr.lookup 70 (.map (some bl)) (kv k) true).run Try.prog ((w.alloc (.cells #[.int .i64 k.f0, .int .i64 k.f1.f0, .int .i64 k.f1.f1, .int .i64 k.f2, .int .i64 k.f3] 36)).drewN m) = .ok (.tuple #[.int .i64 n, .bool (decide (k ∈ keysT T))]) ((w.alloc (.cells #[.int .i64 k.f0, .int .i64 k.f1.f0, .int .i64 k.f1.f1, .int .i64 k.f2, .int .i64 k.f3] 36)).drewN m) := by
    rcases h1.look k hk with ⟨hrun, hno⟩ | ⟨n, hm', hrun⟩
    · exact ⟨0, fun m => by rw [decide_eq_false hno]; exact hrun _ rfl⟩
    · have hin : k ∈ keysT T := List.mem_map.2 ⟨_, hm', rfl⟩
      exact ⟨n, fun m => by rw [decide_eq_true hin]; exact hrun _ rfl⟩
  obtain ⟨F, hF⟩ := Classical.axiomOfChoice (fun m => (h1.same (w' := ((w.alloc (.cells #[.int .i64 k.f0, .int .i64 k.f1.f0, .int .i64 k.f1.f1, .int .i64 k.f2, .int .i64 k.f3] 36)).drewN m)) rfl rfl rfl).del k hk)
  have hd := fun m => (hF m).1
  have HM := Aside0.mk (fun m => (hF m).2)
  have HB := Aside0.mk hb
  clear h h1 hb hF
  generalize decide (k ∈ keysT T) = is at *
  unfold kv at hl hd ⊢
  go_enter Try.func22, Try.ntmps22
  go_wp2
  go_quiet (fail)
  go_wp2
  go_region
  go_wp2
  go_ret
  exact ⟨rfl, (HM.out _).1, (grown_of_below (by repeat (first | (with_reducible first | exact HB.out | apply below_alloc | apply pw_below_drewN | apply below_drew1 | apply below_drew) | exact HB.out)) _).trans (HM.out _).2⟩
end Go.Proofs.Ytkndjjceijfdgaa.PAll
