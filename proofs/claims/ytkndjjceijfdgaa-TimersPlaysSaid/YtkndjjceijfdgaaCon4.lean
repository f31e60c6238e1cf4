/- The contract of Drop. -/
import Derived.Test.YtkndjjceijfdgaaCon3
namespace Go.Proofs.YtkndjjceijfdgaaM
open Go Go.RowKit
variable {P : Program} {k t e : TypeId} {w w' : World} {b r : Nat} {L L' R R' : List (Value × Value)} {key val : Value} {kl : Lit}
theorem RangeAt.left_eq (h : RangeAt P k w b r L R) : w.rangeLeft b r = R.length := by
  obtain ⟨es, clock, since, seen, c0, hb, a1, a2, a3, hr, a4, a5, _⟩ := h
  rw [a5.length_eq]
  simp only [World.rangeLeft, hb, hr]
  simp [pairs]
theorem RangeAt.permR (h : RangeAt P k w b r L R) (hp : R'.Perm R) : RangeAt P k w b r L R' := by
  obtain ⟨es, clock, since, seen, c0, hb, a1, a2, a3, hr, a4, a5, h⟩ := h
  exact ⟨es, clock, since, seen, c0, hb, a1, a2, a3, hr, a4, hp.trans a5, h⟩
theorem RangeAt.permL (h : RangeAt P k w b r L R) (hp : L'.Perm L) : RangeAt P k w b r L' R := by
  obtain ⟨es, clock, since, seen, c0, hb, a1, a2, a3, hr, a4, a5, h⟩ := h
  exact ⟨es, clock, since, seen, c0, hb, a1, hp.trans a2, fun p hp' => a3 p (hp.mem_iff.1 hp'), hr, a4, a5, h⟩
theorem RangeAt.grown {row : Option Nat} (h : RangeAt P k w b r L R) (hg : w.grownBy w' row) (h1 : some b ≠ row) (h2 : some r ≠ row) : RangeAt P k w' b r L R := h.same (hg.block b h.owns.lt h1) (hg.block r h.lt h2)
end Go.Proofs.YtkndjjceijfdgaaM
namespace Go.Proofs.Ytkndjjceijfdgaa.PAll
open Go.RowKit Go.Proofs.YtkndjjceijfdgaaW.PrintWords Go.Proofs.YtkndjjceijfdgaaW.PrintLast Go.Proofs.YtkndjjceijfdgaaW.PrintMore Go.Proofs.YtkndjjceijfdgaaM
set_option linter.unusedVariables false
set_option linter.unusedSimpArgs false
variable {w : World} {b bl bh : Nat} {T : List (S36 × Int)} {Hd : List Int}
theorem range_next {r : Nat} {L : List (Value × Value)} {R : List (S36 × Int)} (h : RangeAt Try.prog 36 w bl r L (R.map tp)) (ty : TypeId) :
    (R = [] ∧ (Instr.next (.pointer (some ⟨r, 0, none⟩)) false ty).run Try.prog w = .ok (.tuple #[.bool false]) w) ∨
    ∃ k n R1 w', R.Perm ((k, n) :: R1) ∧ (Instr.next (.pointer (some ⟨r, 0, none⟩)) false ty).run Try.prog w = .ok (.tuple #[.bool true, kv k, .int .i64 n]) w' ∧
      RangeAt Try.prog 36 w' bl r L (R1.map tp) ∧ w.grownBy w' (some r) ∧ w'.heap.size = w.heap.size ∧ (Instr.entry (.pointer (some ⟨r, 0, none⟩))).run Try.prog w' = .ok (.tuple #[kv k, .int .i64 n]) w' := by
  rcases h.next ty with ⟨h0, hrun⟩ | ⟨key, v, R', w', hp, hrun, hR, hg, hs, hen⟩
  · exact .inl ⟨List.map_eq_nil_iff.1 h0, hrun⟩
  · right
    have hm : (key, v) ∈ R.map tp := hp.mem_iff.2 (List.mem_cons_self ..)
    obtain ⟨⟨k, n⟩, hm', he⟩ := List.mem_map.1 hm
    simp only [tp, Prod.mk.injEq] at he
    obtain ⟨rfl, rfl⟩ := he
    obtain ⟨R1, hp1⟩ := perm_of_mem hm'
    have := ((hp1.map tp).symm.trans hp)
    exact ⟨k, n, R1, w', hp1, hrun, hR.permR ((List.perm_cons _).1 this), hg, hs, hen⟩
theorem range_key {r : Nat} {L R : List (S36 × Int)} (h : RangeAt Try.prog 36 w bl r (L.map tp) (R.map tp)) {p : S36 × Int} (hp : p ∈ L) : ∃ l, keyOf Try.prog 36 (kv p.1) = some l :=
  h.owns.keys (tp p) (List.mem_map.2 ⟨p, hp, rfl⟩)
def isOf (s : S34) (p : S36 × Int) : Bool := decide (p.1.f1.f0 = s.f0) && decide (p.1.f1.f1 = s.f1)
def dropT (T : List (S36 × Int)) (s : S34) : List (S36 × Int) := T.filter (fun p => !isOf s p)
theorem keys_nodup {L : List (S36 × Int)} (h : ((L.map tp).map (·.1)).Nodup) : (keysT L).Nodup := by
  rw [List.map_map] at h
  have e : (L.map ((fun x : Value × Value => x.1) ∘ tp)) = (keysT L).map kv := by unfold keysT; rw [List.map_map]; rfl
  rw [e] at h
  exact (List.pairwise_map.1 h).imp (fun {a b} hab e => hab (congrArg kv e))
theorem TAt.range (h : TAt w b bl bh T Hd) : ∃ w', (Instr.range 70 (.map (some bl))).run Try.prog w = .ok (.pointer (some ⟨w.heap.size, 0, none⟩)) w' ∧ RangeAt Try.prog 36 w' bl w.heap.size (T.map tp) (T.map tp) ∧ Below w.heap.size w w' ∧ w'.heap.size = w.heap.size + 1 :=
  h.2.1.range Try.underlying70
/-- Drop under way: dn are done, R are to come. -/
def DropI (W0 : World) (bl r : Nat) (T : List (S36 × Int)) (s : S34) (wr : World) : Prop :=
  ∃ dn R : List (S36 × Int), RangeAt Try.prog 36 wr bl r ((dropT dn s ++ R).map tp) (R.map tp) ∧ T.Perm (dn ++ R) ∧ W0.grownBy wr (some bl)
theorem range_del {r : Nat} {k : S36} {n : Int} {L R1 : List (S36 × Int)} (h : RangeAt Try.prog 36 w bl r (((k, n) :: L).map tp) (R1.map tp)) (hs : ∀ p ∈ R1, p ∈ L) :
    ∃ w', (Builtin.delete_ #[70, 36] 0 #[.map (some bl), kv k]).run Try.prog w = .ok (.tuple #[]) w' ∧ RangeAt Try.prog 36 w' bl r (L.map tp) (R1.map tp) ∧ w.mapTurned w' bl := by
  obtain ⟨l, hl⟩ := range_key h (List.mem_cons_self ..)
  refine h.del_old law36 Try.underlying70 hl (v := .int .i64 n) (L1 := L.map tp) (List.Perm.refl _) ?_ 0
  intro v hv
  obtain ⟨n', rfl, hm⟩ := mem_tp.1 hv
  have hn := keys_nodup h.owns.nodup
  have := (List.nodup_cons.1 hn).1
  exact this (List.mem_map.2 ⟨_, hs _ hm, rfl⟩)
set_option maxHeartbeats 2000000 in
set_option maxRecDepth 100000 in
theorem drop_any (h : TAt w b bl bh T Hd) (s : S34) :
    Calls Try.prog 23 #[.pointer (some ⟨b, 0, none⟩), .agg #[.int .i64 s.f0, .int .i64 s.f1]] w fun e w' => e = .returned (.int .i64 (wrap64 (T.length - (dropT T s).length))) ∧ TAt w' b bl bh (dropT T s) Hd ∧ w.grownBy w' (some bl) := by
  have hb0 := below_alloc (Below.refl w.heap.size w) (.cells #[.int .i64 s.f0, .int .i64 s.f1] 34)
  have h0 := h.below hb0
  have hlt := h.lt
  have hbox := heap_alloc_new w (.cells #[.int .i64 s.f0, .int .i64 s.f1] 34)
  have e0 : (w.alloc (.cells #[.int .i64 s.f0, .int .i64 s.f1] 34)).heap.size = w.heap.size + 1 := by simp
  have c0 := h0.cells.1
  have hlen : ∀ ty, (Builtin.len_ #[70] ty #[.map (some bl)]).run Try.prog (w.alloc (.cells #[.int .i64 s.f0, .int .i64 s.f1] 34)) = .ok (.int .i64 T.length) (w.alloc (.cells #[.int .i64 s.f0, .int .i64 s.f1] 34)) := fun ty => by
    have := h0.2.1.len Try.underlying70 ty
    rwa [List.length_map] at this
  obtain ⟨w1, hrange, hR, hb1, hs1⟩ := h0.range
  rw [e0] at hrange hR
  have HI := Aside0.mk (show DropI (w.alloc (.cells #[.int .i64 s.f0, .int .i64 s.f1] 34)) bl (w.heap.size + 1) T s w1 from ⟨[], T, hR, List.Perm.refl _, grown_of_below hb1 _⟩)
  have HH := Aside0.mk h0
  have HB := Aside0.mk hb0
  have HX := Aside0.mk hbox
  clear h h0 hR hb1 hb0 hbox
  go_enter Try.func23, Try.ntmps23
  go_wp2
  go_loopw [18] (fun _ wr => DropI (w.alloc (.cells #[.int .i64 s.f0, .int .i64 s.f1] 34)) bl (w.heap.size + 1) T s wr) (fun _ wr => wr.rangeLeft bl (w.heap.size + 1))
  case atStart => exact HI.out
  case round =>
    clear c0 hlen hrange HI hs1 w1
    obtain ⟨dn, R, hR, hT, hg⟩ := hrel
    have hlt0 := HH.out.lt
    rw [e0] at hlt0
    have hblk : ∀ j, j < w.heap.size + 1 → j ≠ bl → wr.heap[j]? = (w.alloc (.cells #[.int .i64 s.f0, .int .i64 s.f1] 34)).heap[j]? := fun j hj hn => hg.block j (by rw [e0]; exact hj) (by simpa using hn)
    have hne := HH.out.ne
    have hbe : wr.heap[b]? = some (.cells #[.map (some bl), .map (some bh)] 73 (0, 0)) := (hblk b hlt0.1 hne.1).trans HH.out.1
    have c0 : wr.cell? ⟨b, 0, none⟩ = some (.map (some bl)) := (blk_cell hbe 0).trans rfl
    have e3 : wr.rangeLeft bl (w.heap.size + 1) = R.length := hR.left_eq.trans (List.length_map _)
    rcases range_next hR 0 with ⟨rfl, hnext⟩ | ⟨k, n, R1, w2, hp, hnext, hR2, hg2, hs2, hen⟩
    · -- nothing is left
      have hlen : ∀ ty, (Builtin.len_ #[70] ty #[.map (some bl)]).run Try.prog wr = .ok (.int .i64 (dropT dn s).length) wr := fun ty => by
        have := hR.owns.len Try.underlying70 ty
        rwa [List.length_map, List.append_nil] at this
      have HR := Aside0.mk hR
      have HG := Aside0.mk hg
      clear hR hg hblk hbe e3
      go_wp2
      go_ret
      have hTd : (dropT T s).Perm (dropT dn s) := by
        have := hT.filter (fun p => !isOf s p)
        rwa [List.append_nil] at this
      refine ⟨by rw [hTd.length_eq]; rfl, HH.out.turned_l (HR.out.owns.perm (by rw [List.append_nil]; exact hTd.map tp)) HG.out, (grown_of_below HB.out _).trans HG.out⟩
    · have hb2 := below_alloc (Below.refl w2.heap.size w2) (.cells #[.int .i64 k.f0, .int .i64 k.f1.f0, .int .i64 k.f1.f1, .int .i64 k.f2, .int .i64 k.f3] 36)
      have hX : wr.heap[w.heap.size]? = some (.cells #[.int .i64 s.f0, .int .i64 s.f1] 34) := (hblk w.heap.size (by omega) (by omega)).trans HX.out
      have hX2 : w2.heap[w.heap.size]? = some (.cells #[.int .i64 s.f0, .int .i64 s.f1] 34) := (hg2.block w.heap.size (by have := (Array.getElem?_eq_some_iff.1 hX).1; exact this) (by simp)).trans hX
      have hbe2 : w2.heap[b]? = some (.cells #[.map (some bl), .map (some bh)] 73 (0, 0)) := (hg2.block b (Array.getElem?_eq_some_iff.1 hbe).1 (by simp; omega)).trans hbe
      have hX3 := (hb2.block w.heap.size (Array.getElem?_eq_some_iff.1 hX2).1).trans hX2
      have hbe3 := (hb2.block b (Array.getElem?_eq_some_iff.1 hbe2).1).trans hbe2
      have x0 : (w2.alloc (.cells #[.int .i64 k.f0, .int .i64 k.f1.f0, .int .i64 k.f1.f1, .int .i64 k.f2, .int .i64 k.f3] 36)).cell? ⟨w.heap.size, 0, none⟩ = some (.int .i64 s.f0) := by rw [blk_cell hX3 0]; rfl
      have x1 : (w2.alloc (.cells #[.int .i64 k.f0, .int .i64 k.f1.f0, .int .i64 k.f1.f1, .int .i64 k.f2, .int .i64 k.f3] 36)).cell? ⟨w.heap.size, 1, none⟩ = some (.int .i64 s.f1) := by rw [blk_cell hX3 1]; rfl
      have c2 : (w2.alloc (.cells #[.int .i64 k.f0, .int .i64 k.f1.f0, .int .i64 k.f1.f1, .int .i64 k.f2, .int .i64 k.f3] 36)).cell? ⟨b, 0, none⟩ = some (.map (some bl)) := by rw [blk_cell hbe3 0]; rfl
      have hR3 := hR2.below hb2
      have hRl : (dropT dn s ++ R).Perm ((k, n) :: (dropT dn s ++ R1)) := (List.Perm.append_left _ hp).trans List.perm_middle
      have hT1 : T.Perm (((k, n) :: dn) ++ R1) := hT.trans ((List.Perm.append_left _ hp).trans List.perm_middle)
      have hg3 := (hg.andThen hg2 (by rintro j ⟨⟩; left; rw [e0]; omega)).trans (grown_of_below hb2 (some bl))
      have e4 : R.length = R1.length + 1 := hp.length_eq
      have hcons : ∀ q, dropT ((k, n) :: dn) s = q → q = q := fun _ _ => rfl
      have HR := Aside0.mk (hR3.permL (hRl.map tp).symm)
      have HG := Aside0.mk hg3
      clear hR hR2 hR3 hg hg2 hg3 hp hblk hbe hX hX2 hbe2 hX3 hbe3 hb2 hcons c0
      unfold kv at hnext hen
      obtain ⟨ka, ⟨ko, km⟩, kk, ks⟩ := k
      dsimp only at *
      by_cases h1 : ko = s.f0
      · subst h1
        by_cases h2 : km = s.f1
        · subst h2
          have q3 : dropT ((⟨ka, ⟨s.f0, s.f1⟩, kk, ks⟩, n) :: dn) s = dropT dn s := by unfold dropT; rw [List.filter_cons_of_neg (by simp [isOf])]
          obtain ⟨w4, hdel, hR4, hg4⟩ := range_del (HR.out.same (w' := (w2.alloc (.cells #[.int .i64 ka, .int .i64 s.f0, .int .i64 s.f1, .int .i64 kk, .int .i64 ks] 36)).drew) rfl rfl) (fun p hp => List.mem_append_right _ hp)
          have HN := Aside0.mk (show DropI (w.alloc (.cells #[.int .i64 s.f0, .int .i64 s.f1] 34)) bl (w.heap.size + 1) T s w4 from ⟨(⟨ka, ⟨s.f0, s.f1⟩, kk, ks⟩, n) :: dn, R1, by rw [q3]; exact hR4, hT1, HG.out.trans ((grown_of_below (Below.refl _ _).drew (some bl)).trans hg4.grown)⟩)
          have HM : Aside0 (w4.rangeLeft bl (w.heap.size + 1) < wr.rangeLeft bl (w.heap.size + 1)) := Aside0.mk (by rw [e3, e4, hR4.left_eq, List.length_map]; omega)
          clear hR4 hg4 q3 e3 e4 hT hT1 hRl
          unfold kv at hdel
          dsimp only at hdel
          go_wp2
          go_region
          go_wp2
          go_roundw
          case rel => exact HN.out
          case measure => exact HM.out
        · have q2 : decide (km = s.f1) = false := decide_eq_false h2
          have q3 : dropT ((⟨ka, ⟨s.f0, km⟩, kk, ks⟩, n) :: dn) s = (⟨ka, ⟨s.f0, km⟩, kk, ks⟩, n) :: dropT dn s := by unfold dropT; rw [List.filter_cons_of_pos (by simp [isOf, *])]
          have HN := Aside0.mk (show DropI (w.alloc (.cells #[.int .i64 s.f0, .int .i64 s.f1] 34)) bl (w.heap.size + 1) T s (w2.alloc (.cells #[.int .i64 ka, .int .i64 s.f0, .int .i64 km, .int .i64 kk, .int .i64 ks] 36)) from ⟨(⟨ka, ⟨s.f0, km⟩, kk, ks⟩, n) :: dn, R1, by rw [q3]; exact HR.out, hT1, HG.out⟩)
          have HM : Aside0 ((w2.alloc (.cells #[.int .i64 ka, .int .i64 s.f0, .int .i64 km, .int .i64 kk, .int .i64 ks] 36)).rangeLeft bl (w.heap.size + 1) < wr.rangeLeft bl (w.heap.size + 1)) := Aside0.mk (by rw [e3, e4, HR.out.left_eq, List.length_map]; omega)
          clear q3 e3 e4 hT hT1 hRl
          go_wp2
          go_roundw
          case rel => exact HN.out
          case measure => exact HM.out
      · have q1 : decide (ko = s.f0) = false := decide_eq_false h1
        have q3 : dropT ((⟨ka, ⟨ko, km⟩, kk, ks⟩, n) :: dn) s = (⟨ka, ⟨ko, km⟩, kk, ks⟩, n) :: dropT dn s := by unfold dropT; rw [List.filter_cons_of_pos (by simp [isOf, *])]
        have HN := Aside0.mk (show DropI (w.alloc (.cells #[.int .i64 s.f0, .int .i64 s.f1] 34)) bl (w.heap.size + 1) T s (w2.alloc (.cells #[.int .i64 ka, .int .i64 ko, .int .i64 km, .int .i64 kk, .int .i64 ks] 36)) from ⟨(⟨ka, ⟨ko, km⟩, kk, ks⟩, n) :: dn, R1, by rw [q3]; exact HR.out, hT1, HG.out⟩)
        have HM : Aside0 ((w2.alloc (.cells #[.int .i64 ka, .int .i64 ko, .int .i64 km, .int .i64 kk, .int .i64 ks] 36)).rangeLeft bl (w.heap.size + 1) < wr.rangeLeft bl (w.heap.size + 1)) := Aside0.mk (by rw [e3, e4, HR.out.left_eq, List.length_map]; omega)
        clear q3 e3 e4 hT hT1 hRl
        go_wp2
        go_roundw
        case rel => exact HN.out
        case measure => exact HM.out
end Go.Proofs.Ytkndjjceijfdgaa.PAll
