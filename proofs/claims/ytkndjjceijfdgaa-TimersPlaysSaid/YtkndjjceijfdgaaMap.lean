/- Maps in memory as lists of pairs, in whatever order: look-up, store, delete, length, range, next; proved once, for every program and every key type that has the key law. -/
import Derived.Maps.RangeWalk
import Derived.Maps.OwnSet
import Derived.DeepKeys4
namespace Go.Proofs.YtkndjjceijfdgaaM
open Go.MapKept (heap_set Stamped stamped_iff stamped_push stamped_erase stamped_modify stamped_empty)
open Go.Maps (Keyed)
open Go.ChangeMaps (setBlock heap_setBlock_same heap_setBlock_other modify_eq_set map_eraseIdx)
open Go.RowKit
set_option linter.unusedVariables false

def pairs (es : Array MapEntry) : List (Value × Value) := es.toList.map fun e => (e.key, e.val)
theorem mem_pairs {es : Array MapEntry} {p : Value × Value} : p ∈ pairs es ↔ ∃ e ∈ es.toList, e.key = p.1 ∧ e.val = p.2 := by
  simp only [pairs, List.mem_map]
  constructor
  · rintro ⟨e, he, rfl⟩; exact ⟨e, he, rfl, rfl⟩
  · rintro ⟨e, he, h1, h2⟩; exact ⟨e, he, by rw [h1, h2]⟩

/-- Block b is a map whose entries are L, in whatever order. -/
def MapAt (P : Program) (k : TypeId) (w : World) (b : Nat) (L : List (Value × Value)) : Prop :=
  ∃ es clock, w.heap[b]? = some (.map es clock) ∧ Stamped es clock ∧ L.Perm (pairs es) ∧ ∀ p ∈ L, ∃ l, keyOf P k p.1 = some l
/-- The map in block b is being ranged over by the iterator in block r; what is still to come: R. -/
def RangeAt (P : Program) (k : TypeId) (w : World) (b r : Nat) (L R : List (Value × Value)) : Prop :=
  ∃ es clock since seen c0, w.heap[b]? = some (.map es clock) ∧ Stamped es clock ∧ L.Perm (pairs es) ∧ (∀ p ∈ L, ∃ l, keyOf P k p.1 = some l) ∧
    w.heap[r]? = some (.mapIter (some b) since seen c0) ∧ (∀ x ∈ es.toList, x.born < since) ∧ R.Perm (pairs (leftOf es seen)) ∧ since ≤ c0 ∧ since ≤ clock

variable {P : Program} {k t e : TypeId} {w w' : World} {b r : Nat} {L L' R R' : List (Value × Value)} {key val : Value} {kl : Lit}

theorem MapAt.perm (h : MapAt P k w b L) (hp : L'.Perm L) : MapAt P k w b L' := by
  obtain ⟨es, c, hb, hs, hL, hk⟩ := h
  exact ⟨es, c, hb, hs, hp.trans hL, fun p hp' => hk p (hp.mem_iff.1 hp')⟩
theorem MapAt.lt (h : MapAt P k w b L) : b < w.heap.size := by
  obtain ⟨es, c, hb, _⟩ := h
  exact (Array.getElem?_eq_some_iff.1 hb).1
theorem MapAt.same (h : MapAt P k w b L) (hh : w'.heap[b]? = w.heap[b]?) : MapAt P k w' b L := by
  obtain ⟨es, c, hb, h⟩ := h
  exact ⟨es, c, hh.trans hb, h⟩
theorem MapAt.below (h : MapAt P k w b L) (hb : Below w.heap.size w w') : MapAt P k w' b L := h.same (hb.block b h.lt)
theorem MapAt.grown (h : MapAt P k w b L) {row : Option Nat} (hg : w.grownBy w' row) (hne : some b ≠ row) : MapAt P k w' b L := h.same (hg.block b h.lt hne)
theorem MapAt.made (P : Program) (k : TypeId) (w : World) : MapAt P k (w.alloc (.map #[] 0)) w.heap.size [] :=
  ⟨#[], 0, heap_alloc_new w _, stamped_empty 0, List.Perm.refl _, fun p hp => by cases hp⟩
theorem pairs_nodup {es : Array MapEntry} {c : Nat} (hs : Stamped es c) : ((pairs es).map (·.1)).Nodup := by
  have := hs.2.2
  unfold pairs
  rw [List.map_map]
  exact this
theorem MapAt.nodup (h : MapAt P k w b L) : (L.map (·.1)).Nodup := by
  obtain ⟨es, c, _, hs, hL, _⟩ := h
  exact (hL.map (·.1)).nodup_iff.2 (pairs_nodup hs)
theorem MapAt.keys (h : MapAt P k w b L) : ∀ p ∈ L, ∃ l, keyOf P k p.1 = some l := by
  obtain ⟨_, _, _, _, _, h⟩ := h; exact h
theorem entry_keys {es : Array MapEntry} (hL : L.Perm (pairs es)) (hk : ∀ p ∈ L, ∃ l, keyOf P k p.1 = some l) : ∀ x ∈ es.toList, ∃ l, keyOf P k x.key = some l := fun x hx => hk (x.key, x.val) (hL.mem_iff.2 (mem_pairs.2 ⟨x, hx, rfl, rfl⟩))

/-- m[k], with ok (c) or without. -/
theorem MapAt.look (h : MapAt P k w b L) (c : Bool) (K : Keyed P k) (ht : P.underlying t = some (.map k e)) {z : Value} (hz : (zeroValue e).run P w = .ok z w) (hkey : keyOf P k key = some kl) :
    ((Instr.lookup t (.map (some b)) key c).run P w = .ok (if c then .tuple #[z, .bool false] else z) w ∧ ∀ v, (key, v) ∉ L) ∨
    ∃ v, (key, v) ∈ L ∧ (Instr.lookup t (.map (some b)) key c).run P w = .ok (if c then .tuple #[v, .bool true] else v) w := by
  obtain ⟨es, clock, hb, hs, hL, hk⟩ := h
  rcases K.find w hkey es.toList (entry_keys hL hk) with ⟨h1, h2⟩ | ⟨j, e0, h1, h2, h3⟩
  · refine .inl ⟨by simp [Instr.lookup, run_underlying ht, MapKept.run_getObj_map hb, K.check w _ hkey, h1, hz, Result.andThen], fun v hv => ?_⟩
    obtain ⟨x, hx, hx1, _⟩ := mem_pairs.1 (hL.mem_iff.1 hv)
    exact h2 x hx hx1
  · refine .inr ⟨e0.val, hL.mem_iff.2 (mem_pairs.2 ⟨e0, List.mem_of_getElem? h2, h3, rfl⟩), by simp [Instr.lookup, run_underlying ht, MapKept.run_getObj_map hb, K.check w _ hkey, h1, Result.andThen]⟩

theorem pairs_push (es : Array MapEntry) (x : MapEntry) : pairs (es.push x) = pairs es ++ [(x.key, x.val)] := by simp [pairs]
theorem set_perm {α : Type} : ∀ (l : List α) (j : Nat) (x y : α), l[j]? = some x → ∃ l1, l.Perm (x :: l1) ∧ (l.set j y).Perm (y :: l1) ∧ (l.eraseIdx j).Perm l1
  | [], j, x, y, h => by simp at h
  | a :: l, 0, x, y, h => by
    obtain rfl : a = x := by simpa using h
    exact ⟨l, List.Perm.refl _, List.Perm.refl _, List.Perm.refl _⟩
  | a :: l, j + 1, x, y, h => by
    obtain ⟨l1, h1, h2, h3⟩ := set_perm l j x y (by simpa using h)
    refine ⟨a :: l1, (h1.cons a).trans (List.Perm.swap ..), ?_, ?_⟩
    · rw [List.set_cons_succ]; exact (h2.cons a).trans (List.Perm.swap ..)
    · rw [List.eraseIdx_cons_succ]; exact h3.cons a
theorem other_key' {es : Array MapEntry} {c : Nat} (hs : Stamped es c) {j : Nat} {e0 : MapEntry} (hj : es.toList[j]? = some e0) : ∀ x ∈ es.toList, x.key = e0.key → x = e0 := by
  intro x hx hk
  have hp := ((stamped_iff es c).1 hs).2.2
  exact entry_eq_of_key hp hx (List.mem_of_getElem? hj) hk

/-- m[k] = v, the key not there. -/
theorem MapAt.put_new (h : MapAt P k w b L) (K : Keyed P k) (ht : P.underlying t = some (.map k e)) (hroom : L.length < maxLen) (hkey : keyOf P k key = some kl) (hno : ∀ v, (key, v) ∉ L) :
    ∃ w', (Instr.mapUpdate t (.map (some b)) key val).run P w = .ok () w' ∧ MapAt P k w' b ((key, val) :: L) ∧ w.mapTurned w' b := by
  obtain ⟨es, clock, hb, hs, hL, hk⟩ := h
  have hsz : es.size < maxLen := by have := hL.length_eq; simp [pairs] at this; omega
  rcases K.find w hkey es.toList (entry_keys hL hk) with ⟨h1, h2⟩ | ⟨j, e0, h1, h2, h3⟩
  · refine ⟨_, by simp [Instr.mapUpdate, run_underlying ht, MapKept.run_getObj_map hb, K.check w false hkey, h1, MapKept.run_setObj_map _ hb, Result.andThen]; rfl, ⟨es.push ⟨key, val, clock⟩, clock + 1, heap_setBlock_same hb _, stamped_push hs h2, ?_, ?_⟩, ⟨es, clock, _, _, hb, rfl⟩⟩
    · rw [pairs_push]
      exact (hL.cons _).trans (List.perm_append_singleton _ _).symm
    · intro p hp
      rcases List.mem_cons.1 hp with rfl | hp
      · exact ⟨_, hkey⟩
      · exact hk p hp
  · exact absurd (hL.mem_iff.2 (mem_pairs.2 ⟨e0, List.mem_of_getElem? h2, h3, rfl⟩)) (hno e0.val)

/-- What a store at a key that is there does to the entries. -/
theorem put_there {es : Array MapEntry} {clock : Nat} (K : Keyed P k) (ht : P.underlying t = some (.map k e)) (hb : w.heap[b]? = some (.map es clock)) (hs : Stamped es clock) (hk : ∀ x ∈ es.toList, ∃ l, keyOf P k x.key = some l) (hkey : keyOf P k key = some kl) {v : Value} (hin : (key, v) ∈ pairs es) :
    ∃ es' j e0, (Instr.mapUpdate t (.map (some b)) key val).run P w = .ok () (setBlock w b (.map es' clock)) ∧ Stamped es' clock ∧ es.toList[j]? = some e0 ∧ e0.key = key ∧ e0.val = v ∧ es'.toList = es.toList.set j { e0 with key := key, val := val } := by
  rcases K.find w hkey es.toList hk with ⟨h1, h2⟩ | ⟨j, e0, h1, h2, h3⟩
  · obtain ⟨x, hx, hx1, _⟩ := mem_pairs.1 hin
    exact absurd hx1 (h2 x hx)
  · have hj : es[j]? = some e0 := by simpa using h2
    have hkeyf : ∀ e', es[j]? = some e' → ({ e' with key := key, val := val } : MapEntry).key = e'.key := fun e' he' => by rw [hj] at he'; cases he'; exact h3.symm
    have hlist : (es.modify j (fun e' => { e' with key := key, val := val })).toList = es.toList.set j { e0 with key := key, val := val } := by rw [Array.toList_modify, modify_eq_set _ _ _ _ h2]
    refine ⟨es.modify j (fun e' => { e' with key := key, val := val }), j, e0, ?_, stamped_modify hs _ _ (fun _ _ => rfl) (fun e' _ he' => hkeyf e' he'), h2, h3, ?_, hlist⟩
    · simp [Instr.mapUpdate, run_underlying ht, MapKept.run_getObj_map hb, K.check w false hkey, h1, hj, h3, K.stays w hkey, MapKept.run_setObj_map _ hb, Result.andThen, setBlock]
    · obtain ⟨x, hx, hx1, hx2⟩ := mem_pairs.1 hin
      exact (congrArg MapEntry.val (other_key' hs h2 x hx (hx1.trans h3.symm))).symm.trans hx2
/-- m[k] = v, the key there. -/
theorem MapAt.put_old (h : MapAt P k w b L) (K : Keyed P k) (ht : P.underlying t = some (.map k e)) (hkey : keyOf P k key = some kl) {v : Value} {L1 : List (Value × Value)} (hin : L.Perm ((key, v) :: L1)) :
    ∃ w', (Instr.mapUpdate t (.map (some b)) key val).run P w = .ok () w' ∧ MapAt P k w' b ((key, val) :: L1) ∧ w.mapTurned w' b := by
  obtain ⟨es, clock, hb, hs, hL, hk⟩ := h
  have hin' : (key, v) ∈ pairs es := hL.mem_iff.1 (hin.mem_iff.2 (List.mem_cons_self ..))
  obtain ⟨es', j, e0, hrun, hs', hj, hj1, hj2, hl⟩ := put_there (val := val) K ht hb hs (entry_keys hL hk) hkey hin'
  refine ⟨_, hrun, ⟨es', clock, heap_setBlock_same hb _, hs', ?_, ?_⟩, ⟨es, clock, es', clock, hb, rfl⟩⟩
  · have hjp : (pairs es)[j]? = some (key, v) := by simp only [pairs, List.getElem?_map, hj, Option.map_some, hj1, hj2]
    obtain ⟨l1, p1, p2, _⟩ := set_perm (pairs es) j (key, v) (key, val) hjp
    have e1 : pairs es' = (pairs es).set j (key, val) := by simp only [pairs, hl, List.map_set]
    rw [e1]
    have : L1.Perm l1 := List.Perm.cons_inv (hin.symm.trans (hL.trans p1))
    exact (this.cons _).trans p2.symm
  · intro p hp
    rcases List.mem_cons.1 hp with rfl | hp
    · exact ⟨_, hkey⟩
    · exact hk p (hin.mem_iff.2 (List.mem_cons_of_mem _ hp))

/-- What a delete does to the entries. -/
theorem del_there {es : Array MapEntry} {clock : Nat} (K : Keyed P k) (ht : P.underlying t = some (.map k e)) (hb : w.heap[b]? = some (.map es clock)) (hs : Stamped es clock) (hk : ∀ x ∈ es.toList, ∃ l, keyOf P k x.key = some l) (hkey : keyOf P k key = some kl) {v : Value} (hin : (key, v) ∈ pairs es) (ty : TypeId) :
    ∃ es' j e0, (Builtin.delete_ #[t, k] ty #[.map (some b), key]).run P w = .ok (.tuple #[]) (setBlock w b (.map es' clock)) ∧ Stamped es' clock ∧ es.toList[j]? = some e0 ∧ e0.key = key ∧ e0.val = v ∧ es'.toList = es.toList.eraseIdx j := by
  rcases K.find w hkey es.toList hk with ⟨h1, h2⟩ | ⟨j, e0, h1, h2, h3⟩
  · obtain ⟨x, hx, hx1, _⟩ := mem_pairs.1 hin
    exact absurd hx1 (h2 x hx)
  · have hjl : j < es.toList.length := (List.getElem?_eq_some_iff.1 h2).1
    have hjs : j < es.size := by simpa using hjl
    have hsub : (es.eraseIdxIfInBounds j).toList = es.toList.eraseIdx j := by
      unfold Array.eraseIdxIfInBounds
      rw [dif_pos hjs]
      simp
    refine ⟨es.eraseIdxIfInBounds j, j, e0, ?_, stamped_erase hs j, h2, h3, ?_, hsub⟩
    · simp [Builtin.delete_, run_underlying ht, MapKept.run_getObj_map hb, K.check w _ hkey, h1, MapKept.run_setObj_map _ hb, Result.andThen, setBlock]
    · obtain ⟨x, hx, hx1, hx2⟩ := mem_pairs.1 hin
      exact (congrArg MapEntry.val (other_key' hs h2 x hx (hx1.trans h3.symm))).symm.trans hx2
theorem MapAt.del_old (h : MapAt P k w b L) (K : Keyed P k) (ht : P.underlying t = some (.map k e)) (hkey : keyOf P k key = some kl) {v : Value} {L1 : List (Value × Value)} (hin : L.Perm ((key, v) :: L1)) (ty : TypeId) :
    ∃ w', (Builtin.delete_ #[t, k] ty #[.map (some b), key]).run P w = .ok (.tuple #[]) w' ∧ MapAt P k w' b L1 ∧ w.mapTurned w' b := by
  obtain ⟨es, clock, hb, hs, hL, hk⟩ := h
  have hin' : (key, v) ∈ pairs es := hL.mem_iff.1 (hin.mem_iff.2 (List.mem_cons_self ..))
  obtain ⟨es', j, e0, hrun, hs', hj, hj1, hj2, hl⟩ := del_there K ht hb hs (entry_keys hL hk) hkey hin' ty
  refine ⟨_, hrun, ⟨es', clock, heap_setBlock_same hb _, hs', ?_, ?_⟩, ⟨es, clock, es', clock, hb, rfl⟩⟩
  · have hjp : (pairs es)[j]? = some (key, v) := by simp only [pairs, List.getElem?_map, hj, Option.map_some, hj1, hj2]
    obtain ⟨l1, p1, _, p3⟩ := set_perm (pairs es) j (key, v) (key, v) hjp
    have e1 : pairs es' = (pairs es).eraseIdx j := by simp only [pairs, hl, map_eraseIdx]
    rw [e1]
    have : L1.Perm l1 := List.Perm.cons_inv (hin.symm.trans (hL.trans p1))
    exact this.trans p3.symm
  · intro p hp
    exact hk p (hin.mem_iff.2 (List.mem_cons_of_mem _ hp))
theorem MapAt.del_none (h : MapAt P k w b L) (K : Keyed P k) (ht : P.underlying t = some (.map k e)) (hkey : keyOf P k key = some kl) (hno : ∀ v, (key, v) ∉ L) (ty : TypeId) :
    ∃ w', (Builtin.delete_ #[t, k] ty #[.map (some b), key]).run P w = .ok (.tuple #[]) w' ∧ MapAt P k w' b L ∧ w.mapTurned w' b := by
  obtain ⟨es, clock, hb, hs, hL, hk⟩ := h
  rcases K.find w hkey es.toList (entry_keys hL hk) with ⟨h1, h2⟩ | ⟨j, e0, h1, h2, h3⟩
  · refine ⟨_, by simp [Builtin.delete_, run_underlying ht, MapKept.run_getObj_map hb, K.check w _ hkey, h1, MapKept.run_setObj_map _ hb, Result.andThen]; rfl, ⟨es, clock, heap_setBlock_same hb _, hs, hL, hk⟩, ⟨es, clock, es, clock, hb, rfl⟩⟩
  · exact absurd (hL.mem_iff.2 (mem_pairs.2 ⟨e0, List.mem_of_getElem? h2, h3, rfl⟩)) (hno e0.val)
theorem MapAt.len (h : MapAt P k w b L) (ht : P.underlying t = some (.map k e)) (ty : TypeId) : (Builtin.len_ #[t] ty #[.map (some b)]).run P w = .ok (.int .i64 L.length) w := by
  obtain ⟨es, clock, hb, hs, hL, hk⟩ := h
  have : L.length = es.size := by have := hL.length_eq; simpa [pairs] using this
  rw [this]
  simp [Builtin.len_, run_underlying ht, MapKept.run_getObj_map hb, Result.andThen]
  rfl

/-! Ranging -/
theorem RangeAt.owns (h : RangeAt P k w b r L R) : MapAt P k w b L := by
  obtain ⟨es, clock, _, _, _, hb, hs, hL, hk, _⟩ := h
  exact ⟨es, clock, hb, hs, hL, hk⟩
theorem RangeAt.ne (h : RangeAt P k w b r L R) : r ≠ b := by
  obtain ⟨es, clock, since, seen, c0, hb, _, _, _, hr, _⟩ := h
  intro e1
  rw [e1, hb] at hr
  cases hr
theorem RangeAt.lt (h : RangeAt P k w b r L R) : r < w.heap.size := by
  obtain ⟨es, clock, since, seen, c0, hb, _, _, _, hr, _⟩ := h
  exact (Array.getElem?_eq_some_iff.1 hr).1
theorem RangeAt.same (h : RangeAt P k w b r L R) (h1 : w'.heap[b]? = w.heap[b]?) (h2 : w'.heap[r]? = w.heap[r]?) : RangeAt P k w' b r L R := by
  obtain ⟨es, clock, since, seen, c0, hb, a1, a2, a3, hr, h⟩ := h
  exact ⟨es, clock, since, seen, c0, h1.trans hb, a1, a2, a3, h2.trans hr, h⟩
theorem RangeAt.below (h : RangeAt P k w b r L R) (hb : Below w.heap.size w w') : RangeAt P k w' b r L R := h.same (hb.block b h.owns.lt) (hb.block r h.lt)
theorem RangeAt.sub (h : RangeAt P k w b r L R) : ∀ p ∈ R, p ∈ L := by
  obtain ⟨es, clock, since, seen, c0, hb, a1, a2, a3, hr, a4, a5, _⟩ := h
  intro p hp
  obtain ⟨x, hx, h1, h2⟩ := mem_pairs.1 (a5.mem_iff.1 hp)
  refine a2.mem_iff.2 (mem_pairs.2 ⟨x, ?_, h1, h2⟩)
  simp only [leftOf, Array.toList_filter, List.mem_filter] at hx
  exact hx.1
theorem RangeAt.nodup (h : RangeAt P k w b r L R) : (R.map (·.1)).Nodup := by
  obtain ⟨es, clock, since, seen, c0, hb, a1, a2, a3, hr, a4, a5, _⟩ := h
  refine (a5.map (·.1)).nodup_iff.2 ?_
  have e1 : (pairs (leftOf es seen)).map (·.1) = (es.toList.filter fun e => !seen.contains e.born).map (·.key) := by
    unfold pairs leftOf; rw [Array.toList_filter, List.map_map]; rfl
  rw [e1]
  exact (List.Sublist.map _ List.filter_sublist).nodup a1.2.2
theorem MapAt.range (h : MapAt P k w b L) (ht : P.underlying t = some (.map k e)) :
    ∃ w', (Instr.range t (.map (some b))).run P w = .ok (.pointer (some ⟨w.heap.size, 0, none⟩)) w' ∧ RangeAt P k w' b w.heap.size L L ∧ Below w.heap.size w w' ∧ w'.heap.size = w.heap.size + 1 := by
  have hlt := h.lt
  obtain ⟨es, clock, hb, hs, hL, hk⟩ := h
  refine ⟨_, run_range_map w t k e b es clock ht hb, ⟨es, clock, clock, #[], clock, ((MapKept.heap_alloc w _).2 b hlt).trans hb, hs, hL, hk, (MapKept.heap_alloc w _).1, hs.1, ?_, Nat.le_refl _, Nat.le_refl _⟩, (Below.refl _ _).alloc (Nat.le_refl _) _, by simp⟩
  have : leftOf es #[] = es := by simp [leftOf]
  rw [this]; exact hL
theorem left_push (es : Array MapEntry) (seen : Array Nat) (hb : (es.toList.map (·.born)).Nodup) {x : MapEntry} (hx : x ∈ (leftOf es seen).toList) : (pairs (leftOf es seen)).Perm ((x.key, x.val) :: pairs (leftOf es (seen.push x.born))) := by
  have e1 : (leftOf es seen).toList = es.toList.filter fun e => !seen.contains e.born := by unfold leftOf; rw [Array.toList_filter]
  have e2 : (leftOf es (seen.push x.born)).toList = (es.toList.filter fun e => !seen.contains e.born).filter fun e => !(e.born == x.born) := by
    unfold leftOf
    rw [Array.toList_filter, List.filter_filter]
    refine List.filter_congr (fun y _ => ?_)
    rw [contains_push]
    cases seen.contains y.born <;> cases (y.born == x.born) <;> rfl
  rw [e1] at hx
  have hn : ((es.toList.filter fun e => !seen.contains e.born).map (·.born)).Nodup := (List.Sublist.map _ List.filter_sublist).nodup hb
  unfold pairs
  rw [e1, e2]
  generalize (es.toList.filter fun e => !seen.contains e.born) = l at hx hn
  have key : ∀ (l : List MapEntry), x ∈ l → (l.map (·.born)).Nodup → l.Perm (x :: l.filter fun e => !(e.born == x.born)) := by
    intro l
    induction l with
    | nil => intro h; cases h
    | cons a l ih =>
      intro h hn
      rw [List.map_cons, List.nodup_cons] at hn
      rcases List.mem_cons.1 h with rfl | h
      · have : l.filter (fun e => !(e.born == x.born)) = l := by
          refine List.filter_eq_self.2 (fun y hy => ?_)
          have : y.born ≠ x.born := fun e => hn.1 (e ▸ List.mem_map_of_mem hy)
          simpa using this
        rw [List.filter_cons_of_neg (by simp), this]
      · have hne : a.born ≠ x.born := fun e => hn.1 (e ▸ List.mem_map_of_mem h)
        rw [List.filter_cons_of_pos (by simpa using hne)]
        exact ((ih h hn.2).cons a).trans (List.Perm.swap ..)
  exact (key l hx hn).map _
/-- The step. -/
theorem RangeAt.next (h : RangeAt P k w b r L R) (ty : TypeId) :
    (R = [] ∧ (Instr.next (.pointer (some ⟨r, 0, none⟩)) false ty).run P w = .ok (.tuple #[.bool false]) w) ∨
    ∃ key v R' w', R.Perm ((key, v) :: R') ∧ (Instr.next (.pointer (some ⟨r, 0, none⟩)) false ty).run P w = .ok (.tuple #[.bool true, key, v]) w' ∧
      RangeAt P k w' b r L R' ∧ w.grownBy w' (some r) ∧ w'.heap.size = w.heap.size ∧ (Instr.entry (.pointer (some ⟨r, 0, none⟩))).run P w' = .ok (.tuple #[key, v]) w' := by
  have hne := h.ne
  obtain ⟨es, clock, since, seen, c0, hb, hs, hL, hk, hr, hold, hR, hsc, hsk⟩ := h
  rcases run_next_at (P := P) w ty r b since c0 seen es clock hr hb hold hsc with ⟨h0, hrun⟩ | ⟨x, hx, w1, hal, hrun⟩
  · refine .inl ⟨?_, hrun⟩
    have : R.length = 0 := by rw [hR.length_eq]; simpa [pairs] using h0
    exact List.eq_nil_of_length_eq_zero this
  · have hr1 : w1.heap[r]? = some (.mapIter (some b) since seen c0) := by rcases hal with rfl | rfl <;> exact hr
    have hb1 : w1.heap[b]? = some (.map es clock) := by rcases hal with rfl | rfl <;> exact hb
    have hset := heap_set (o' := .mapIter (some b) since (seen.push x.born) clock) hr1
    have hb' : (setBlock w1 r (.mapIter (some b) since (seen.push x.born) clock)).heap[b]? = some (.map es clock) := (hset.2 b (fun e1 => hne e1.symm)).trans hb1
    have hxe : x ∈ es.toList := by
      simp only [leftOf, Array.toList_filter, List.mem_filter] at hx
      exact hx.1
    refine .inr ⟨x.key, x.val, pairs (leftOf es (seen.push x.born)), _, hR.trans (left_push es seen ((stamped_iff es clock).1 hs).2.1 hx), hrun,
      ⟨es, clock, since, seen.push x.born, clock, hb', hs, hL, hk, hset.1, hold, List.Perm.refl _, hsk, hsk⟩, ?_, ?_,
      run_entry_at _ r b since seen es clock x hset.1 hb' hxe ((stamped_iff es clock).1 hs).2.1⟩
    · rcases hal with rfl | rfl <;> exact ⟨rfl, rfl, rfl, by simp [setBlock], fun i _ hi => hset.2 i (fun e1 => hi (by rw [e1]))⟩
    · rcases hal with rfl | rfl <;> simp [setBlock]
theorem left_key {es : Array MapEntry} {seen : Array Nat} (hR : R.Perm (pairs (leftOf es seen))) (hno : ∀ v, (key, v) ∉ R) {x : MapEntry} (hx : x ∈ es.toList) (hk : x.key = key) : seen.contains x.born = true := by
  cases hc : seen.contains x.born
  · exfalso
    refine hno x.val (hR.mem_iff.2 (mem_pairs.2 ⟨x, ?_, hk, rfl⟩))
    simp only [leftOf, Array.toList_filter, List.mem_filter]
    exact ⟨hx, by rw [hc]; rfl⟩
  · rfl
theorem filter_set {α : Type} (f : α → Bool) : ∀ (l : List α) (j : Nat) (x y : α), l[j]? = some x → f x = false → f y = false → (l.set j y).filter f = l.filter f
  | [], j, x, y, h, _, _ => by simp at h
  | a :: l, 0, x, y, h, h1, h2 => by
    obtain rfl : a = x := by simpa using h
    rw [List.set_cons_zero, List.filter_cons_of_neg (by rw [h2]; decide), List.filter_cons_of_neg (by rw [h1]; decide)]
  | a :: l, j + 1, x, y, h, h1, h2 => by
    rw [List.set_cons_succ, List.filter_cons, List.filter_cons, filter_set f l j x y (by simpa using h) h1 h2]
theorem filter_erase {α : Type} (f : α → Bool) : ∀ (l : List α) (j : Nat) (x : α), l[j]? = some x → f x = false → (l.eraseIdx j).filter f = l.filter f
  | [], j, x, h, _ => by simp at h
  | a :: l, 0, x, h, h1 => by
    obtain rfl : a = x := by simpa using h
    rw [List.eraseIdx_cons_zero, List.filter_cons_of_neg (by rw [h1]; decide)]
  | a :: l, j + 1, x, h, h1 => by
    rw [List.eraseIdx_cons_succ, List.filter_cons, List.filter_cons, filter_erase f l j x (by simpa using h) h1]
theorem RangeAt.put_old (h : RangeAt P k w b r L R) (K : Keyed P k) (ht : P.underlying t = some (.map k e)) (hkey : keyOf P k key = some kl) {v : Value} {L1 : List (Value × Value)} (hin : L.Perm ((key, v) :: L1)) (hno : ∀ v, (key, v) ∉ R) :
    ∃ w', (Instr.mapUpdate t (.map (some b)) key val).run P w = .ok () w' ∧ RangeAt P k w' b r ((key, val) :: L1) R ∧ w.mapTurned w' b := by
  have hne := h.ne
  obtain ⟨es, clock, since, seen, c0, hb, hs, hL, hk, hr, hold, hR, hsc, hsk⟩ := h
  have hin' : (key, v) ∈ pairs es := hL.mem_iff.1 (hin.mem_iff.2 (List.mem_cons_self ..))
  obtain ⟨es', j, e0, hrun, hs', hj, hj1, hj2, hl⟩ := put_there (val := val) K ht hb hs (entry_keys hL hk) hkey hin'
  have hseen := left_key hR hno (List.mem_of_getElem? hj) hj1
  refine ⟨_, hrun, ⟨es', clock, since, seen, c0, heap_setBlock_same hb _, hs', ?_, ?_, (heap_setBlock_other hb _ hne).trans hr, ?_, ?_, hsc, hsk⟩, ⟨es, clock, es', clock, hb, rfl⟩⟩
  · have hjp : (pairs es)[j]? = some (key, v) := by simp only [pairs, List.getElem?_map, hj, Option.map_some, hj1, hj2]
    obtain ⟨l1, p1, p2, _⟩ := set_perm (pairs es) j (key, v) (key, val) hjp
    have e1 : pairs es' = (pairs es).set j (key, val) := by simp only [pairs, hl, List.map_set]
    rw [e1]
    have : L1.Perm l1 := List.Perm.cons_inv (hin.symm.trans (hL.trans p1))
    exact (this.cons _).trans p2.symm
  · intro p hp
    rcases List.mem_cons.1 hp with rfl | hp
    · exact ⟨_, hkey⟩
    · exact hk p (hin.mem_iff.2 (List.mem_cons_of_mem _ hp))
  · intro x hx
    rw [hl] at hx
    rcases List.mem_or_eq_of_mem_set hx with hx | rfl
    · exact hold x hx
    · exact hold e0 (List.mem_of_getElem? hj)
  · have e1 : pairs (leftOf es' seen) = pairs (leftOf es seen) := by
      unfold pairs leftOf
      rw [Array.toList_filter, Array.toList_filter, hl, filter_set _ _ _ e0 _ hj (by rw [hseen]; rfl) (by show (!seen.contains e0.born) = false; rw [hseen]; rfl)]
    rw [e1]; exact hR
theorem RangeAt.del_old (h : RangeAt P k w b r L R) (K : Keyed P k) (ht : P.underlying t = some (.map k e)) (hkey : keyOf P k key = some kl) {v : Value} {L1 : List (Value × Value)} (hin : L.Perm ((key, v) :: L1)) (hno : ∀ v, (key, v) ∉ R) (ty : TypeId) :
    ∃ w', (Builtin.delete_ #[t, k] ty #[.map (some b), key]).run P w = .ok (.tuple #[]) w' ∧ RangeAt P k w' b r L1 R ∧ w.mapTurned w' b := by
  have hne := h.ne
  obtain ⟨es, clock, since, seen, c0, hb, hs, hL, hk, hr, hold, hR, hsc, hsk⟩ := h
  have hin' : (key, v) ∈ pairs es := hL.mem_iff.1 (hin.mem_iff.2 (List.mem_cons_self ..))
  obtain ⟨es', j, e0, hrun, hs', hj, hj1, hj2, hl⟩ := del_there K ht hb hs (entry_keys hL hk) hkey hin' ty
  have hseen := left_key hR hno (List.mem_of_getElem? hj) hj1
  refine ⟨_, hrun, ⟨es', clock, since, seen, c0, heap_setBlock_same hb _, hs', ?_, ?_, (heap_setBlock_other hb _ hne).trans hr, ?_, ?_, hsc, hsk⟩, ⟨es, clock, es', clock, hb, rfl⟩⟩
  · have hjp : (pairs es)[j]? = some (key, v) := by simp only [pairs, List.getElem?_map, hj, Option.map_some, hj1, hj2]
    obtain ⟨l1, p1, _, p3⟩ := set_perm (pairs es) j (key, v) (key, v) hjp
    have e1 : pairs es' = (pairs es).eraseIdx j := by simp only [pairs, hl, map_eraseIdx]
    rw [e1]
    have : L1.Perm l1 := List.Perm.cons_inv (hin.symm.trans (hL.trans p1))
    exact this.trans p3.symm
  · intro p hp
    exact hk p (hin.mem_iff.2 (List.mem_cons_of_mem _ hp))
  · intro x hx
    rw [hl] at hx
    exact hold x ((List.eraseIdx_sublist _ _).subset hx)
  · have e1 : pairs (leftOf es' seen) = pairs (leftOf es seen) := by
      unfold pairs leftOf
      rw [Array.toList_filter, Array.toList_filter, hl, filter_erase _ _ _ e0 hj (by rw [hseen]; rfl)]
    rw [e1]; exact hR
end Go.Proofs.YtkndjjceijfdgaaM
