/- Contracts of the timers' methods but Tick, continued. -/
import Derived.Test.YtkndjjceijfdgaaCon
import Derived.Deep.RegionWith
import Derived.RegionTactic
import Derived.Outline
namespace Go.Proofs.Ytkndjjceijfdgaa.PAll
open Go.RowKit Go.Proofs.YtkndjjceijfdgaaW.PrintWords Go.Proofs.YtkndjjceijfdgaaW.PrintLast Go.Proofs.YtkndjjceijfdgaaW.PrintMore Go.Proofs.YtkndjjceijfdgaaM
set_option linter.unusedVariables false
set_option linter.unusedSimpArgs false
variable {w : World} {b bl bh : Nat} {T : List (S36 × Int)} {Hd : List Int}
def keysT (T : List (S36 × Int)) : List S36 := T.map (·.1)
theorem TAt.nodup (h : TAt w b bl bh T Hd) : (keysT T).Nodup := by
  have := h.2.1.nodup
  rw [List.map_map] at this
  have e : (T.map ((fun x : Value × Value => x.1) ∘ tp)) = (keysT T).map kv := by unfold keysT; rw [List.map_map]; rfl
  rw [e] at this
  exact (List.pairwise_map.1 this).imp (fun {a b} hab e => hab (congrArg kv e))
theorem pair_unique {T : List (S36 × Int)} (hn : (keysT T).Nodup) {k : S36} {n n' : Int} (h : (k, n) ∈ T) (h' : (k, n') ∈ T) : n = n' := by
  unfold keysT at hn
  induction T with
  | nil => cases h
  | cons p T ih =>
    rw [List.map_cons, List.nodup_cons] at hn
    rcases List.mem_cons.1 h with e1 | g <;> rcases List.mem_cons.1 h' with e2 | g'
    · rw [← e1] at e2
      exact ((Prod.mk.injEq ..).mp e2).2.symm
    · exact absurd (List.mem_map.2 ⟨_, g', by rw [← e1]⟩) hn.1
    · exact absurd (List.mem_map.2 ⟨_, g, by rw [← e2]⟩) hn.1
    · exact ih hn.2 g g'
theorem mem_tp {k : S36} {v : Value} : (kv k, v) ∈ T.map tp ↔ ∃ n, v = .int .i64 n ∧ (k, n) ∈ T := by
  rw [List.mem_map]
  constructor
  · rintro ⟨⟨k', n⟩, hm, he⟩
    simp only [tp, Prod.mk.injEq] at he
    obtain rfl := kv_inj he.1
    exact ⟨n, he.2.symm, hm⟩
  · rintro ⟨n, rfl, hm⟩; exact ⟨(k, n), hm, rfl⟩
theorem zero3 (w : World) : (zeroValue 3).run Try.prog w = .ok (.int .i64 0) w := by kernel_rfl
theorem zero74 (w : World) : (zeroValue 74).run Try.prog w = .ok (.agg #[]) w := by kernel_rfl
/-- m[k] of the timers. -/
theorem TAt.look (h : TAt w b bl bh T Hd) (k : S36) (hk : WK k) :
    ((∀ W, W.heap = w.heap → (Instr.lookup 70 (.map (some bl)) (kv k) true).run Try.prog W = .ok (.tuple #[.int .i64 0, .bool false]) W) ∧ k ∉ keysT T) ∨
    ∃ n, (k, n) ∈ T ∧ ∀ W, W.heap = w.heap → (Instr.lookup 70 (.map (some bl)) (kv k) true).run Try.prog W = .ok (.tuple #[.int .i64 n, .bool true]) W := by
  obtain ⟨l, hl⟩ := key36 k hk
  by_cases hin : k ∈ keysT T
  · right
    unfold keysT at hin
    obtain ⟨⟨k', n⟩, hm, rfl⟩ := List.mem_map.1 hin
    refine ⟨n, hm, fun W hW => ?_⟩
    have hA : MapAt Try.prog 36 W bl (T.map tp) := h.2.1.same (by rw [hW])
    rcases hA.look true law36 Try.underlying70 (zero3 W) hl with ⟨_, hno⟩ | ⟨v, hv, hrun⟩
    · exact absurd (mem_tp.2 ⟨n, rfl, hm⟩) (hno _)
    · obtain ⟨n', rfl, hm'⟩ := mem_tp.1 hv
      have : n' = n := by
        exact pair_unique h.nodup hm' hm
      subst this
      exact hrun
  · left
    refine ⟨fun W hW => ?_, hin⟩
    have hA : MapAt Try.prog 36 W bl (T.map tp) := h.2.1.same (by rw [hW])
    rcases hA.look true law36 Try.underlying70 (zero3 W) hl with ⟨hrun, _⟩ | ⟨v, hv, _⟩
    · exact hrun
    · obtain ⟨n, rfl, hm⟩ := mem_tp.1 hv
      exact absurd (List.mem_map.2 ⟨_, hm, rfl⟩) hin

theorem count_any (h : TAt w b bl bh T Hd) : Calls Try.prog 14 #[.pointer (some ⟨b, 0, none⟩)] w fun e w' => e = .returned (.int .i64 T.length) ∧ w' = w := by
  have c0 := h.cells.1
  have hlen : ∀ ty, (Builtin.len_ #[70] ty #[.map (some bl)]).run Try.prog w = .ok (.int .i64 T.length) w := fun ty => by
    have := h.2.1.len Try.underlying70 ty
    rwa [List.length_map] at this
  clear h
  go_enter Try.func14, Try.ntmps14
  go_wp2
  go_ret
  exact ⟨rfl, rfl⟩
theorem left_yes (h : TAt w b bl bh T Hd) {k : S36} (hk : WK k) {n : Int} (hm : (k, n) ∈ T) : Calls Try.prog 20 #[.pointer (some ⟨b, 0, none⟩), kv k] w fun e w' => e = .returned (.tuple #[.int .i64 n, .bool true]) ∧ Below w.heap.size w w' := by
  have hb := below_alloc (Below.refl w.heap.size w) (.cells #[.int .i64 k.f0, .int .i64 k.f1.f0, .int .i64 k.f1.f1, .int .i64 k.f2, .int .i64 k.f3] 36)
  have h1 := h.below hb
  have c0 := h1.cells.1
  have hl : ∀ m, (Instr.lookup 70 (.map (some bl)) (kv k) true).run Try.prog ((w.alloc (.cells #[.int .i64 k.f0, .int .i64 k.f1.f0, .int .i64 k.f1.f1, .int .i64 k.f2, .int .i64 k.f3] 36)).drewN m) = .ok (.tuple #[.int .i64 n, .bool true]) ((w.alloc (.cells #[.int .i64 k.f0, .int .i64 k.f1.f0, .int .i64 k.f1.f1, .int .i64 k.f2, .int .i64 k.f3] 36)).drewN m) := by
    intro m
    rcases h1.look k hk with ⟨_, hno⟩ | ⟨n', hm', hrun⟩
    · exact absurd (List.mem_map.2 ⟨_, hm, rfl⟩) hno
    · have : n' = n := pair_unique h.nodup hm' hm
      subst this
      exact hrun _ rfl
  have HB := Aside0.mk hb
  clear h h1 hb hm
  unfold kv at hl ⊢
  go_enter Try.func20, Try.ntmps20
  go_wp2
  go_quiet (fail)
  go_wp2
  go_ret2
  exact ⟨rfl, by repeat (first | (with_reducible first | exact HB.out | apply below_alloc | apply pw_below_drewN | apply below_drew1 | apply below_drew) | exact HB.out)⟩

theorem left_no (h : TAt w b bl bh T Hd) {k : S36} (hk : WK k) (hm : k ∉ keysT T) : Calls Try.prog 20 #[.pointer (some ⟨b, 0, none⟩), kv k] w fun e w' => e = .returned (.tuple #[.int .i64 0, .bool false]) ∧ Below w.heap.size w w' := by
  have hb := below_alloc (Below.refl w.heap.size w) (.cells #[.int .i64 k.f0, .int .i64 k.f1.f0, .int .i64 k.f1.f1, .int .i64 k.f2, .int .i64 k.f3] 36)
  have h1 := h.below hb
  have c0 := h1.cells.1
  have hl : ∀ m, (Instr.lookup 70 (.map (some bl)) (kv k) true).run Try.prog ((w.alloc (.cells #[.int .i64 k.f0, .int .i64 k.f1.f0, .int .i64 k.f1.f1, .int .i64 k.f2, .int .i64 k.f3] 36)).drewN m) = .ok (.tuple #[.int .i64 0, .bool false]) ((w.alloc (.cells #[.int .i64 k.f0, .int .i64 k.f1.f0, .int .i64 k.f1.f1, .int .i64 k.f2, .int .i64 k.f3] 36)).drewN m) := by
    intro m
    rcases h1.look k hk with ⟨hrun, _⟩ | ⟨n', hm', _⟩
    · exact hrun _ rfl
    · exact absurd (List.mem_map.2 ⟨_, hm', rfl⟩) hm
  have HB := Aside0.mk hb
  clear h h1 hb hm
  unfold kv at hl ⊢
  go_enter Try.func20, Try.ntmps20
  go_wp2
  go_quiet (fail)
  go_wp2
  go_ret2
  exact ⟨rfl, by repeat (first | (with_reducible first | exact HB.out | apply below_alloc | apply pw_below_drewN | apply below_drew1 | apply below_drew) | exact HB.out)⟩
/-! Held peers -/
theorem mem_hp {n : Int} {v : Value} : (.int .i64 n, v) ∈ Hd.map hp ↔ v = .agg #[] ∧ n ∈ Hd := by
  rw [List.mem_map]
  constructor
  · rintro ⟨m, hm, he⟩
    simp only [hp, Prod.mk.injEq, Value.int.injEq, true_and] at he
    obtain ⟨rfl, rfl⟩ := he
    exact ⟨rfl, hm⟩
  · rintro ⟨rfl, hm⟩; exact ⟨n, hm, rfl⟩
/-- Behind a write into one of the table's maps. -/
theorem TAt.turned_h {w' : World} {Hd' : List Int} (h : TAt w b bl bh T Hd) (h' : MapAt Try.prog 3 w' bh (Hd'.map hp)) (ht : w.grownBy w' (some bh)) : TAt w' b bl bh T Hd' :=
  ⟨(ht.block b h.lt.1 (fun e => h.ne.2 (by injection e))).trans h.1, h.2.1.same (ht.block bl h.lt.2.1 (fun e => h.2.2.2 (by injection e))), h', h.2.2.2⟩
theorem TAt.turned_l {w' : World} {T' : List (S36 × Int)} (h : TAt w b bl bh T Hd) (h' : MapAt Try.prog 36 w' bl (T'.map tp)) (ht : w.grownBy w' (some bl)) : TAt w' b bl bh T' Hd :=
  ⟨(ht.block b h.lt.1 (fun e => h.ne.1 (by injection e))).trans h.1, h', h.2.2.1.same (ht.block bh h.lt.2.2 (fun e => h.2.2.2 (by injection e; symm; assumption))), h.2.2.2⟩
theorem perm_of_mem {α : Type} {x : α} {l : List α} (h : x ∈ l) : ∃ l1, l.Perm (x :: l1) := by
  obtain ⟨a, c, rfl⟩ := List.append_of_mem h
  exact ⟨a ++ c, List.perm_middle⟩
theorem hold_any (h : TAt w b bl bh T Hd) (n : Int) (hn : W64 n) (hr : Hd.length < maxLen) : Calls Try.prog 16 #[.pointer (some ⟨b, 0, none⟩), .int .i64 n] w fun e w' => e = .returned (.tuple #[]) ∧ (∃ Hd', TAt w' b bl bh T Hd' ∧ (∀ m, m ∈ Hd' ↔ m = n ∨ m ∈ Hd) ∧ Hd'.length ≤ Hd.length + 1) ∧ w.grownBy w' (some bh) := by
  have c1 := h.cells.2
  obtain ⟨w', hrun, hm⟩ : ∃ w', (Instr.mapUpdate 71 (.map (some bh)) (.int .i64 n) (.agg #[])).run Try.prog w = .ok () w' ∧ (∃ Hd', TAt w' b bl bh T Hd' ∧ (∀ m, m ∈ Hd' ↔ m = n ∨ m ∈ Hd) ∧ Hd'.length ≤ Hd.length + 1) ∧ w.grownBy w' (some bh) := by
    by_cases hin : n ∈ Hd
    · obtain ⟨H1, hp1⟩ := perm_of_mem hin
      obtain ⟨w', hrun, hA, ht⟩ := h.2.2.1.put_old (val := .agg #[]) law3 Try.underlying71 (key3 hn) (v := .agg #[]) (L1 := H1.map hp) (hp1.map hp)
      exact ⟨w', hrun, ⟨n :: H1, h.turned_h (Hd' := n :: H1) hA ht.grown, fun m => by simp [hp1.mem_iff], by rw [hp1.length_eq]; exact Nat.le_succ _⟩, ht.grown⟩
    · obtain ⟨w', hrun, hA, ht⟩ := h.2.2.1.put_new (val := .agg #[]) law3 Try.underlying71 (by rw [List.length_map]; exact hr) (key3 hn) (fun v hv => hin (mem_hp.1 hv).2)
      exact ⟨w', hrun, ⟨n :: Hd, h.turned_h (Hd' := n :: Hd) hA ht.grown, fun m => by rw [List.mem_cons], Nat.le_refl _⟩, ht.grown⟩
  have HM := Aside0.mk hm
  clear h hm
  go_enter Try.func16, Try.ntmps16
  go_wp2
  go_end0
  exact ⟨rfl, HM.out⟩
theorem go_any (h : TAt w b bl bh T Hd) (n : Int) (hn : W64 n) : Calls Try.prog 17 #[.pointer (some ⟨b, 0, none⟩), .int .i64 n] w fun e w' => e = .returned (.tuple #[]) ∧ (∃ Hd', TAt w' b bl bh T Hd' ∧ (∀ m, m ∈ Hd' ↔ m ≠ n ∧ m ∈ Hd) ∧ Hd'.length ≤ Hd.length) ∧ w.grownBy w' (some bh) := by
  have c1 := h.cells.2
  obtain ⟨w', hrun, hm⟩ : ∃ w', (Builtin.delete_ #[71, 3] 0 #[.map (some bh), .int .i64 n]).run Try.prog w = .ok (.tuple #[]) w' ∧ (∃ Hd', TAt w' b bl bh T Hd' ∧ (∀ m, m ∈ Hd' ↔ m ≠ n ∧ m ∈ Hd) ∧ Hd'.length ≤ Hd.length) ∧ w.grownBy w' (some bh) := by
    have hnd : Hd.Nodup := by
      have := h.2.2.1.nodup
      rw [List.map_map] at this
      exact (List.pairwise_map.1 this).imp (fun {a b} hab e => hab (congrArg (fun n => Value.int .i64 n) e))
    by_cases hin : n ∈ Hd
    · obtain ⟨H1, hp1⟩ := perm_of_mem hin
      obtain ⟨w', hrun, hA, ht⟩ := h.2.2.1.del_old law3 Try.underlying71 (key3 hn) (v := .agg #[]) (L1 := H1.map hp) (hp1.map hp) 0
      have hn1 := (hp1.nodup_iff.1 hnd)
      rw [List.nodup_cons] at hn1
      refine ⟨w', hrun, ⟨H1, h.turned_h hA ht.grown, fun m => ?_, by rw [hp1.length_eq]; exact Nat.le_succ _⟩, ht.grown⟩
      rw [hp1.mem_iff, List.mem_cons]
      constructor
      · intro hm; exact ⟨fun e => hn1.1 (e ▸ hm), .inr hm⟩
      · rintro ⟨h1, h2 | h2⟩
        · exact absurd h2 h1
        · exact h2
    · obtain ⟨w', hrun, hA, ht⟩ := h.2.2.1.del_none law3 Try.underlying71 (key3 hn) (fun v hv => hin (mem_hp.1 hv).2) 0
      refine ⟨w', hrun, ⟨Hd, h.turned_h hA ht.grown, fun m => ?_, Nat.le_refl _⟩, ht.grown⟩
      exact ⟨fun hm => ⟨fun e => hin (e ▸ hm), hm⟩, fun hm => hm.2⟩
  have HM := Aside0.mk hm
  clear h hm
  go_enter Try.func17, Try.ntmps17
  go_wp2
  go_end0
  exact ⟨rfl, HM.out⟩
end Go.Proofs.Ytkndjjceijfdgaa.PAll
