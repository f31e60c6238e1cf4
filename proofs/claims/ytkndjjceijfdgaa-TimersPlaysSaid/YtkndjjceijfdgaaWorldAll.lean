/- The law's World in memory: two tables, two of the document's, the lists that came out; each block is owned by one of them. The law's step: each kind of call, on the table and on the document's: the same answer. The law's step: a tick. The law's step, whatever the kind; its last look at a table. -/
import Derived.Test.YtkndjjceijfdgaaRefAll
import Derived.Test.YtkndjjceijfdgaaAlone2
import Derived.Test.YtkndjjceijfdgaaOpenOp
import Derived.Deep.RegionHeld3
import Derived.Test.YtkndjjceijfdgaaAwake
namespace Go.Proofs.Ytkndjjceijfdgaa.PAll
open Go.RowKit Go.Proofs.YtkndjjceijfdgaaW.PrintWords Go.Proofs.YtkndjjceijfdgaaW.PrintLast Go.Proofs.YtkndjjceijfdgaaW.PrintMore Go.Proofs.YtkndjjceijfdgaaM
set_option linter.unusedVariables false
set_option linter.unusedSimpArgs false
/-- A slice's header. -/
structure Sl where
  a : Option Addr
  n : Nat
  c : Nat
def zSl : Sl := ⟨none, 0, 0⟩
def encS (s : Sl) : Value := .slice s.a s.n s.c
def kS : Kd Sl := Kd.scalar encS (fun _ => rfl)
theorem info30 : (Try.prog.info? 30).map (fun i => (i.zero, i.size, i.bytes)) = some (some (.slice none 0 0), 1, 24) := by kernel_rfl
def sAt (l : List Sl) (i : Nat) : Sl := l.getD i zSl
def rAt (l : List (List S36)) (i : Nat) : List S36 := l.getD i []
structure WS where
  b : Nat → Nat
  bl : Nat → Nat
  bh : Nat → Nat
  g : Nat → Nat
  T : Nat → List (S36 × Int)
  Hd : Nat → List Int
  L : Nat → List S85
  He : Nat → List Int
  vo : Value
  vw : Value
  ss : List Sl
  ws : List Sl
  xss : List (List S36)
/-- A table of timers, its blocks owned by id. -/
def CT (own : Nat → Nat) (id : Nat) (wi : World) (b bl bh : Nat) (T : List (S36 × Int)) (Hd : List Int) : Prop := TAt wi b bl bh T Hd ∧ own b = id ∧ own bl = id ∧ own bh = id
def Mem (w : World) (gw : Nat) (own : Nat → Nat) (s : WS) (wi : World) : Prop :=
  Below w.heap.size w wi ∧ (∀ x, x < w.heap.size → own x = 0) ∧
  (wi.heap[gw]? = some (.cells #[.pointer (some ⟨s.b 0, 0, none⟩), .pointer (some ⟨s.b 1, 0, none⟩), .pointer (some ⟨s.g 0, 0, none⟩), .pointer (some ⟨s.g 1, 0, none⟩), s.vo, s.vw] 62 (0, 0)) ∧ own gw = 7) ∧
  (∀ k, k < 2 → CT own (1 + k) wi (s.b k) (s.bl k) (s.bh k) (s.T k) (s.Hd k)) ∧
  (∀ k, k < 2 → FAt wi (s.g k) (fun x => own x = 3 + k) (s.L k) (s.He k)) ∧
  Kd.R kS 30 wi 0 (fun x => own x = 5) s.vo s.ss ∧ Kd.R kS 30 wi 0 (fun x => own x = 6) s.vw s.ws ∧
  (s.xss.length ≤ s.ss.length ∧ s.xss.length ≤ s.ws.length) ∧
  (∀ i, i < s.xss.length → Kd.R k36 36 wi 0 (fun x => own x = 10 + 2 * i) (encS (sAt s.ss i)) (rAt s.xss i) ∧ Kd.R k36 36 wi 0 (fun x => own x = 11 + 2 * i) (encS (sAt s.ws i)) (rAt s.xss i))
variable {w wi wj : World} {gw id : Nat} {own own' : Nat → Nat} {s : WS}
theorem CT.lt {b bl bh : Nat} {T : List (S36 × Int)} {Hd : List Int} (h : CT own id wi b bl bh T Hd) : b < wi.heap.size ∧ bl < wi.heap.size ∧ bh < wi.heap.size := h.1.lt
theorem CT.frm {b bl bh : Nat} {I : Nat → Prop} {T : List (S36 × Int)} {Hd : List Int} (h : CT own id wi b bl bh T Hd) (hf : Frm wi wj (fun x => I (own x))) (hne : ¬ I id) (ho : ∀ x, x < wi.heap.size → own' x = own x) : CT own' id wj b bl bh T Hd := by
  obtain ⟨l1, l2, l3⟩ := h.lt
  obtain ⟨hT, h1, h2, h3⟩ := h
  exact ⟨hT.same (hf.block _ l1 (fun e => hne (h1 ▸ e))) (hf.block _ l2 (fun e => hne (h2 ▸ e))) (hf.block _ l3 (fun e => hne (h3 ▸ e))), (ho _ l1).trans h1, (ho _ l2).trans h2, (ho _ l3).trans h3⟩
theorem R_frm {α : Type} {d : Kd α} {e : Nat} {I : Nat → Prop} {v : Value} {xs : List α} (h : Kd.R d e wi 0 (fun x => own x = id) v xs) (hf : Frm wi wj (fun x => I (own x))) (hne : ¬ I id) (ho : ∀ x, x < wi.heap.size → own' x = own x) : Kd.R d e wj 0 (fun x => own' x = id) v xs := by
  have h1 : Kd.R d e wi 0 (fun x => own x = id ∧ x < wi.heap.size) v xs := Kd.R_mono (Kd.R_bound h) (fun k hk => ⟨hk.1, hk.2.2.1⟩)
  exact Kd.R_mono (Kd.R_step h1 (fun k hk hlt => hf.block k hlt (fun e => hne (hk.1 ▸ e)))) (fun k hk => (ho k hk.2).trans hk.1)
theorem F_frm {g : Nat} {I : Nat → Prop} {L : List S85} {He : List Int} (h : FAt wi g (fun x => own x = id) L He) (hf : Frm wi wj (fun x => I (own x))) (hne : ¬ I id) (ho : ∀ x, x < wi.heap.size → own' x = own x) : FAt wj g (fun x => own' x = id) L He := by
  have h1 : FAt wi g (fun x => own x = id ∧ x < wi.heap.size) L He := h.mono (fun x hx hk => ⟨hk, hx⟩)
  exact (h1.frm hf (fun x hx hk e => hne (hk.1 ▸ e))).mono (fun x hx hk => (ho x hk.2).trans hk.1)
/-- What a call leaves that turns blocks of the owners I alone. -/
theorem Mem.but {I : Nat → Prop} (h : Mem w gw own s wi) (hf : Frm wi wj (fun x => I (own x))) (h0 : ¬ I 0) (ho : ∀ x, x < wi.heap.size → own' x = own x) :
    Below w.heap.size w wj ∧ (∀ x, x < w.heap.size → own' x = 0) ∧
    (¬ I 7 → wj.heap[gw]? = some (.cells #[.pointer (some ⟨s.b 0, 0, none⟩), .pointer (some ⟨s.b 1, 0, none⟩), .pointer (some ⟨s.g 0, 0, none⟩), .pointer (some ⟨s.g 1, 0, none⟩), s.vo, s.vw] 62 (0, 0))) ∧ own' gw = 7 ∧
    (∀ k, k < 2 → ¬ I (1 + k) → CT own' (1 + k) wj (s.b k) (s.bl k) (s.bh k) (s.T k) (s.Hd k)) ∧
    (∀ k, k < 2 → ¬ I (3 + k) → FAt wj (s.g k) (fun x => own' x = 3 + k) (s.L k) (s.He k)) ∧
    (¬ I 5 → Kd.R kS 30 wj 0 (fun x => own' x = 5) s.vo s.ss) ∧ (¬ I 6 → Kd.R kS 30 wj 0 (fun x => own' x = 6) s.vw s.ws) ∧
    (∀ i, i < s.xss.length → (¬ I (10 + 2 * i) → Kd.R k36 36 wj 0 (fun x => own' x = 10 + 2 * i) (encS (sAt s.ss i)) (rAt s.xss i)) ∧ (¬ I (11 + 2 * i) → Kd.R k36 36 wj 0 (fun x => own' x = 11 + 2 * i) (encS (sAt s.ws i)) (rAt s.xss i))) := by
  obtain ⟨h1, h2, ⟨h3, h3'⟩, h4, h5, h6, h7, h8, h9⟩ := h
  have hgw := (Array.getElem?_eq_some_iff.1 h3).1
  have hsz := h1.size
  refine ⟨⟨hf.os.trans h1.os, hf.tape.trans h1.tape, hf.output.trans h1.output, Nat.le_trans h1.size hf.size, fun x hx => ?_⟩, fun x hx => ?_, fun hne => ?_, (ho _ hgw).trans h3', fun k hk hne => (h4 k hk).frm hf hne ho, fun k hk hne => F_frm (h5 k hk) hf hne ho, fun hne => R_frm h6 hf hne ho, fun hne => R_frm h7 hf hne ho, fun i hi => ⟨fun hne => R_frm (h9 i hi).1 hf hne ho, fun hne => R_frm (h9 i hi).2 hf hne ho⟩⟩
  · exact (hf.block x (by omega) (fun e => h0 (h2 x hx ▸ e))).trans (h1.block x hx)
  · rw [ho x (by omega)]; exact h2 x hx
  · exact (hf.block gw hgw (fun e => hne (h3' ▸ e))).trans h3
/-- New blocks are id's. -/
def upd (own : Nat → Nat) (wi : World) (id : Nat) : Nat → Nat := fun x => if x < wi.heap.size then own x else id
theorem upd_old {x : Nat} (hx : x < wi.heap.size) : upd own wi id x = own x := if_pos hx
theorem upd_new {x : Nat} (hx : wi.heap.size ≤ x) : upd own wi id x = id := if_neg (by omega)
theorem Mem.below (h : Mem w gw own s wi) (hb : Below wi.heap.size wi wj) (id : Nat) : Mem w gw (upd own wi id) s wj := by
  obtain ⟨a1, a2, a3, a4, a5, a6, a7, a8, a9⟩ := h.but (I := fun i => i = 8) (own' := upd own wi id) (Frm.of_below hb (fun x => own x = 8)) (by decide) (fun x hx => upd_old hx)
  exact ⟨a1, a2, ⟨a3 (by decide), a4⟩, fun k hk => a5 k hk (by omega), fun k hk => a6 k hk (by omega), a7 (by decide), a8 (by decide), h.2.2.2.2.2.2.2.1, fun i hi => ⟨(a9 i hi).1 (by omega), (a9 i hi).2 (by omega)⟩⟩
def setAt {α : Type} (f : Nat → α) (k : Nat) (v : α) : Nat → α := fun i => if i = k then v else f i
theorem setAt_same {α : Type} {f : Nat → α} {k : Nat} {v : α} : setAt f k v k = v := if_pos rfl
theorem setAt_ne {α : Type} {f : Nat → α} {k i : Nat} {v : α} (h : i ≠ k) : setAt f k v i = f i := if_neg h
/-- A call on the table k. -/
theorem Mem.timers (h : Mem w gw own s wi) {k c : Nat} (hk : k < 2) {T' : List (S36 × Int)} {Hd' : List Int} (hT : TAt wj (s.b k) (s.bl k) (s.bh k) T' Hd') (hg : wi.grownBy wj (some c)) (hc : own c = 1 + k) (id : Nat) : Mem w gw (upd own wi id) { s with T := setAt s.T k T', Hd := setAt s.Hd k Hd' } wj := by
  obtain ⟨a1, a2, a3, a4, a5, a6, a7, a8, a9⟩ := h.but (I := fun i => i = 1 + k) (own' := upd own wi id) (Frm.of_grown hg (F := fun x => own x = 1 + k) hc) (by omega) (fun x hx => upd_old hx)
  refine ⟨a1, a2, ⟨a3 (by omega), a4⟩, fun i hi => ?_, fun k' hk' => a6 k' hk' (by omega), a7 (by omega), a8 (by omega), h.2.2.2.2.2.2.2.1, fun i hi => ⟨(a9 i hi).1 (by omega), (a9 i hi).2 (by omega)⟩⟩
  by_cases hik : i = k
  · subst hik
    have ho := h.2.2.2.1 i hi
    obtain ⟨l1, l2, l3⟩ := ho.lt
    show CT _ _ _ _ _ _ (setAt s.T i T' i) (setAt s.Hd i Hd' i)
    rw [setAt_same, setAt_same]
    exact ⟨hT, (upd_old l1).trans ho.2.1, (upd_old l2).trans ho.2.2.1, (upd_old l3).trans ho.2.2.2⟩
  · show CT _ _ _ _ _ _ (setAt s.T k T' i) (setAt s.Hd k Hd' i)
    rw [setAt_ne hik, setAt_ne hik]
    exact a5 i hi (by omega)
/-- A call on the document's table k; f: which block of the new ones is another's (or none: f = wi's size .. never). -/
theorem Mem.ref (h : Mem w gw own s wi) {k : Nat} (hk : k < 2) {L' : List S85} {He' : List Int} (hF : FAt wj (s.g k) (fun x => own' x = 3 + k) L' He') (hf : Frm wi wj (fun x => own x = 3 + k)) (ho : ∀ x, x < wi.heap.size → own' x = own x) : Mem w gw own' { s with L := setAt s.L k L', He := setAt s.He k He' } wj := by
  obtain ⟨a1, a2, a3, a4, a5, a6, a7, a8, a9⟩ := h.but (I := fun i => i = 3 + k) (own' := own') hf (by omega) ho
  refine ⟨a1, a2, ⟨a3 (by omega), a4⟩, fun i hi => a5 i hi (by omega), fun i hi => ?_, a7 (by omega), a8 (by omega), h.2.2.2.2.2.2.2.1, fun i hi => ⟨(a9 i hi).1 (by omega), (a9 i hi).2 (by omega)⟩⟩
  by_cases hik : i = k
  · subst hik
    show FAt _ _ _ (setAt s.L i L' i) (setAt s.He i He' i)
    rw [setAt_same, setAt_same]; exact hF
  · show FAt _ _ _ (setAt s.L k L' i) (setAt s.He k He' i)
    rw [setAt_ne hik, setAt_ne hik]; exact a6 i hi (by omega)
theorem New.upd {g k : Nat} {L' : List S85} {He' : List Int} (hF : FAt wj g (New wi (fun x => own x = 3 + k)) L' He') : FAt wj g (fun x => PAll.upd own wi (3 + k) x = 3 + k) L' He' :=
  hF.mono (fun x hx hn => by
    unfold PAll.upd
    by_cases hlt : x < wi.heap.size
    · rw [if_pos hlt]; exact hn.elim id (fun h => by omega)
    · rw [if_neg hlt])
/-- The tables agree. -/
def Rel (N : Nat) (s : WS) : Prop := (s.ss.length = s.xss.length ∧ s.ws.length = s.xss.length) ∧ (∀ k, k < 2 → MR (s.T k) (s.L k) ∧ (∀ m, m ∈ s.Hd k ↔ m ∈ s.He k) ∧ goodT (s.T k) ∧ (s.L k).length ≤ N ∧ (s.Hd k).length ≤ N ∧ (s.He k).length ≤ N) ∧ s.xss.length ≤ N ∧ ∀ xs ∈ s.xss, xs.length ≤ N
theorem Rel.mono {N N' : Nat} (h : Rel N s) (hN : N ≤ N') : Rel N' s := by
  refine ⟨h.1, fun k hk => ?_, Nat.le_trans h.2.2.1 hN, fun xs hx => Nat.le_trans (h.2.2.2 xs hx) hN⟩
  obtain ⟨a1, a2, a3, a4, a5, a6⟩ := h.2.1 k hk
  exact ⟨a1, a2, a3, by omega, by omega, by omega⟩
/-- Of table k alone something has changed. -/
theorem Rel.at {N N' k : Nat} {T' : List (S36 × Int)} {Hd' He' : List Int} {L' : List S85} (h : Rel N s) (hN : N ≤ N') (hk : k < 2) (h1 : MR T' L') (h2 : ∀ m, m ∈ Hd' ↔ m ∈ He') (h3 : goodT T') (h4 : L'.length ≤ N') (h5 : Hd'.length ≤ N') (h6 : He'.length ≤ N') :
    Rel N' { s with T := setAt s.T k T', Hd := setAt s.Hd k Hd', L := setAt s.L k L', He := setAt s.He k He' } := by
  refine ⟨h.1, fun i hi => ?_, Nat.le_trans h.2.2.1 hN, fun xs hx => Nat.le_trans (h.2.2.2 xs hx) hN⟩
  by_cases hik : i = k
  · subst hik
    show MR (setAt s.T i T' i) (setAt s.L i L' i) ∧ (∀ m, m ∈ setAt s.Hd i Hd' i ↔ m ∈ setAt s.He i He' i) ∧ goodT (setAt s.T i T' i) ∧ (setAt s.L i L' i).length ≤ N' ∧ (setAt s.Hd i Hd' i).length ≤ N' ∧ (setAt s.He i He' i).length ≤ N'
    simp only [setAt_same]
    exact ⟨h1, h2, h3, h4, h5, h6⟩
  · show MR (setAt s.T k T' i) (setAt s.L k L' i) ∧ (∀ m, m ∈ setAt s.Hd k Hd' i ↔ m ∈ setAt s.He k He' i) ∧ goodT (setAt s.T k T' i) ∧ (setAt s.L k L' i).length ≤ N' ∧ (setAt s.Hd k Hd' i).length ≤ N' ∧ (setAt s.He k He' i).length ≤ N'
    simp only [setAt_ne hik]
    obtain ⟨a1, a2, a3, a4, a5, a6⟩ := h.2.1 i hi
    exact ⟨a1, a2, a3, by omega, by omega, by omega⟩
theorem sAt_app {l : List Sl} {x : Sl} {i : Nat} (h : i < l.length) : sAt (l ++ [x]) i = sAt l i := by
  unfold sAt; rw [List.getD_eq_getElem?_getD, List.getElem?_append_left h, List.getD_eq_getElem?_getD]
theorem sAt_last {l : List Sl} {x : Sl} : sAt (l ++ [x]) l.length = x := by
  unfold sAt; rw [List.getD_eq_getElem?_getD]; simp
theorem rAt_app {l : List (List S36)} {x : List S36} {i : Nat} (h : i < l.length) : rAt (l ++ [x]) i = rAt l i := by
  unfold rAt; rw [List.getD_eq_getElem?_getD, List.getElem?_append_left h, List.getD_eq_getElem?_getD]
theorem rAt_last {l : List (List S36)} {x : List S36} : rAt (l ++ [x]) l.length = x := by
  unfold rAt; rw [List.getD_eq_getElem?_getD]; simp
/-- A slice more in one of the two lists: what turned is the list's row and the law's World. -/
theorem push_frm {v v' : Value} {id j : Nat} {ss : List Sl} (hv : Kd.R kS 30 wi 0 (fun x => own x = id) v ss) (hg : wi.grownBy wj v.ownBlock) (hgw : own gw = 7) : Frm wi (wj.setCell ⟨gw, j, none⟩ v') (fun x => own x = id ∨ own x = 7) :=
  (Frm.of_row hg (fun k hk => .inl (hv.1 k hk))).trans (Frm.set wj gw j v' (F := fun x => own x = id ∨ own x = 7) (.inr hgw)) (fun x _ h => h)
theorem Mem.pushO {vo' : Value} {l : Sl} (h : Mem w gw own s wi) (hR : Kd.R kS 30 wj 0 (fun x => upd own wi 5 x = 5) vo' (s.ss ++ [l])) (hg : wi.grownBy wj s.vo.ownBlock) : Mem w gw (upd own wi 5) { s with vo := vo', ss := s.ss ++ [l] } (wj.setCell ⟨gw, 4, none⟩ vo') := by
  have hgw := h.2.2.1
  have hlt := (Array.getElem?_eq_some_iff.1 hgw.1).1
  have hf := push_frm (v' := vo') (j := 4) h.2.2.2.2.2.1 hg hgw.2
  obtain ⟨a1, a2, a3, a4, a5, a6, a7, a8, a9⟩ := h.but (I := fun i => i = 5 ∨ i = 7) (own' := upd own wi 5) hf (by omega) (fun x hx => upd_old hx)
  have hne := Kd.R_ne h.2.2.2.2.2.1 hgw.1 (by decide)
  have hcj := (hg.block gw hlt hne).trans hgw.1
  refine ⟨a1, a2, ⟨heap_setCell_same _ _ 4 _ _ _ hcj, a4⟩, fun k hk => a5 k hk (by omega), fun k hk => a6 k hk (by omega), Kd.R_far (p := ⟨gw, 4, none⟩) hR (fun k hk e => by
    have h7 : upd own wi 5 gw = 7 := a4
    have e' : k = gw := e
    rw [e'] at hk
    omega) vo', a8 (by omega), ⟨Nat.le_trans h.2.2.2.2.2.2.2.1.1 (by simp), h.2.2.2.2.2.2.2.1.2⟩, fun i hi => ?_⟩
  have hi' : i < s.xss.length := hi
  show Kd.R k36 36 _ 0 _ (encS (sAt (s.ss ++ [l]) i)) _ ∧ _
  rw [sAt_app (by have := h.2.2.2.2.2.2.2.1.1; omega)]
  exact ⟨(a9 i hi).1 (by omega), (a9 i hi).2 (by omega)⟩
theorem Mem.pushW {vw' : Value} {l : Sl} (h : Mem w gw own s wi) (hR : Kd.R kS 30 wj 0 (fun x => upd own wi 6 x = 6) vw' (s.ws ++ [l])) (hg : wi.grownBy wj s.vw.ownBlock) : Mem w gw (upd own wi 6) { s with vw := vw', ws := s.ws ++ [l] } (wj.setCell ⟨gw, 5, none⟩ vw') := by
  have hgw := h.2.2.1
  have hlt := (Array.getElem?_eq_some_iff.1 hgw.1).1
  have hf := push_frm (v' := vw') (j := 5) h.2.2.2.2.2.2.1 hg hgw.2
  obtain ⟨a1, a2, a3, a4, a5, a6, a7, a8, a9⟩ := h.but (I := fun i => i = 6 ∨ i = 7) (own' := upd own wi 6) hf (by omega) (fun x hx => upd_old hx)
  have hne := Kd.R_ne h.2.2.2.2.2.2.1 hgw.1 (by decide)
  have hcj := (hg.block gw hlt hne).trans hgw.1
  refine ⟨a1, a2, ⟨heap_setCell_same _ _ 5 _ _ _ hcj, a4⟩, fun k hk => a5 k hk (by omega), fun k hk => a6 k hk (by omega), a7 (by omega), Kd.R_far (p := ⟨gw, 5, none⟩) hR (fun k hk e => by
    have h7 : upd own wi 6 gw = 7 := a4
    have e' : k = gw := e
    rw [e'] at hk
    omega) vw', ⟨h.2.2.2.2.2.2.2.1.1, Nat.le_trans h.2.2.2.2.2.2.2.1.2 (by simp)⟩, fun i hi => ?_⟩
  have hi' : i < s.xss.length := hi
  show _ ∧ Kd.R k36 36 _ 0 _ (encS (sAt (s.ws ++ [l]) i)) _
  rw [sAt_app (by have := h.2.2.2.2.2.2.2.1.2; omega)]
  exact ⟨(a9 i hi).1 (by omega), (a9 i hi).2 (by omega)⟩
theorem Mem.pushX {os : List S36} {l l2 : Sl} {ss0 ws0 : List Sl} (h : Mem w gw own s wi) (h1 : s.ss = ss0 ++ [l]) (h2 : s.ws = ws0 ++ [l2]) (h3 : ss0.length = s.xss.length) (h4 : ws0.length = s.xss.length) (hX : Kd.R k36 36 wi 0 (fun x => own x = 10 + 2 * s.xss.length) (encS l) os) (hY : Kd.R k36 36 wi 0 (fun x => own x = 11 + 2 * s.xss.length) (encS l2) os) : Mem w gw own { s with xss := s.xss ++ [os] } wi := by
  obtain ⟨a1, a2, a3, a4, a5, a6, a7, a8, a9⟩ := h
  refine ⟨a1, a2, a3, a4, a5, a6, a7, ⟨by simp only [List.length_append, List.length_cons, List.length_nil]; rw [h1]; simp; omega, by simp only [List.length_append, List.length_cons, List.length_nil]; rw [h2]; simp; omega⟩, fun i hi => ?_⟩
  simp only [List.length_append, List.length_cons, List.length_nil] at hi
  show Kd.R k36 36 wi 0 _ (encS (sAt s.ss i)) (rAt (s.xss ++ [os]) i) ∧ Kd.R k36 36 wi 0 _ (encS (sAt s.ws i)) (rAt (s.xss ++ [os]) i)
  by_cases hlt : i < s.xss.length
  · rw [rAt_app hlt]; exact a9 i hlt
  · have e : i = s.xss.length := by omega
    subst e
    rw [rAt_last, h1, h2, ← h3, sAt_last, h3, ← h4, sAt_last, h4]
    exact ⟨hX, hY⟩
/-- A row of keys whose own block is id's. -/
theorem R36_own {base : Nat} {ok ok' : Nat → Prop} {v : Value} {xs : List S36} (h : Kd.R k36 36 wi base ok v xs) (hok : ∀ k, v.ownBlock = some k → ok k → ok' k) : Kd.R k36 36 wi 0 ok' v xs :=
  Kd.R_lower (Kd.R_flat (fun {o1 o2 x cs} hm => by rw [k36_openM hm]; exact k36_mkM _ _ _ _) h hok) (Nat.zero_le _)
theorem F_row {g : Nat} {F ok : Nat → Prop} {L : List S85} {He : List Int} {v : Value} {base : Nat} {xs : List S36} (hF : FAt wj g F L He) (hR : Kd.R k36 36 wj base ok v xs) : FAt wj g (fun x => F x ∧ some x ≠ v.ownBlock) L He := by
  cases hv : v.ownBlock with
  | none => exact hF.mono (fun x _ hx => ⟨hx, by simp⟩)
  | some c =>
    obtain ⟨cells, hc⟩ := Kd.R_typed hR c hv
    exact (hF.ne_row hc (by decide) (by decide) (by decide)).mono (fun x _ hx => ⟨hx.1, fun e => hx.2 (by injection e)⟩)
end Go.Proofs.Ytkndjjceijfdgaa.PAll

namespace Go.Proofs.Ytkndjjceijfdgaa.PAll
open Go.RowKit Go.Proofs.YtkndjjceijfdgaaW.PrintWords Go.Proofs.YtkndjjceijfdgaaW.PrintLast Go.Proofs.YtkndjjceijfdgaaW.PrintMore Go.Proofs.YtkndjjceijfdgaaM
set_option linter.unusedVariables false
set_option linter.unusedSimpArgs false
variable {w wi wj : World} {gw id N : Nat} {own own' : Nat → Nat} {s : WS}
theorem Mem.cells (h : Mem w gw own s wi) : wi.cell? ⟨gw, 0, none⟩ = some (.pointer (some ⟨s.b 0, 0, none⟩)) ∧ wi.cell? ⟨gw, 1, none⟩ = some (.pointer (some ⟨s.b 1, 0, none⟩)) ∧ wi.cell? ⟨gw, 2, none⟩ = some (.pointer (some ⟨s.g 0, 0, none⟩)) ∧ wi.cell? ⟨gw, 3, none⟩ = some (.pointer (some ⟨s.g 1, 0, none⟩)) ∧ wi.cell? ⟨gw, 4, none⟩ = some s.vo ∧ wi.cell? ⟨gw, 5, none⟩ = some s.vw := by
  have hc := h.2.2.1.1
  exact ⟨by rw [blk_cell hc 0]; rfl, by rw [blk_cell hc 1]; rfl, by rw [blk_cell hc 2]; rfl, by rw [blk_cell hc 3]; rfl, by rw [blk_cell hc 4]; rfl, by rw [blk_cell hc 5]; rfl⟩
theorem box66 {W : World} {B : Nat} {o : OpV} (h : W.heap[B]? = some (.cells #[.int .i64 o.kind, .bool o.two, .int .i64 o.k.f0, .int .i64 o.k.f1.f0, .int .i64 o.k.f1.f1, .int .i64 o.k.f2, .int .i64 o.k.f3, .int .i64 o.n] 66 (0, 0))) : W.cell? ⟨B, 0, none⟩ = some (.int .i64 o.kind) ∧ W.cell? ⟨B, 1, none⟩ = some (.bool o.two) ∧ W.cell? ⟨B, 2, none⟩ = some (.int .i64 o.k.f0) ∧ W.cell? ⟨B, 3, none⟩ = some (.int .i64 o.k.f1.f0) ∧ W.cell? ⟨B, 4, none⟩ = some (.int .i64 o.k.f1.f1) ∧ W.cell? ⟨B, 5, none⟩ = some (.int .i64 o.k.f2) ∧ W.cell? ⟨B, 6, none⟩ = some (.int .i64 o.k.f3) ∧ W.cell? ⟨B, 7, none⟩ = some (.int .i64 o.n) :=
  ⟨by rw [blk_cell h 0]; rfl, by rw [blk_cell h 1]; rfl, by rw [blk_cell h 2]; rfl, by rw [blk_cell h 3]; rfl, by rw [blk_cell h 4]; rfl, by rw [blk_cell h 5]; rfl, by rw [blk_cell h 6]; rfl, by rw [blk_cell h 7]; rfl⟩
/-- What a step leaves. -/
def StepPost (w : World) (gw N : Nat) (e : Ending) (w' : World) : Prop := e = .returned (.bool true) ∧ ∃ own' s', Mem w gw own' s' w' ∧ Rel (N + 1) s'
/-- A state in which the step's box stands, too. -/
def MB (w : World) (gw : Nat) (own : Nat → Nat) (s : WS) (B : Nat) (o : OpV) (W : World) : Prop := Mem w gw own s W ∧ own B = 8 ∧ W.heap[B]? = some (.cells #[.int .i64 o.kind, .bool o.two, .int .i64 o.k.f0, .int .i64 o.k.f1.f0, .int .i64 o.k.f1.f1, .int .i64 o.k.f2, .int .i64 o.k.f3, .int .i64 o.n] 66 (0, 0))
theorem MB.start (h : Mem w gw own s wi) (o : OpV) : MB w gw (upd own wi 8) s wi.heap.size o (wi.alloc (.cells #[.int .i64 o.kind, .bool o.two, .int .i64 o.k.f0, .int .i64 o.k.f1.f0, .int .i64 o.k.f1.f1, .int .i64 o.k.f2, .int .i64 o.k.f3, .int .i64 o.n] 66)) :=
  ⟨h.below (below_alloc (Below.refl _ _) _) 8, upd_new (Nat.le_refl _), heap_alloc_new wi _⟩
theorem MB.lt {B : Nat} {o : OpV} (h : MB w gw own s B o wi) : B < wi.heap.size := (Array.getElem?_eq_some_iff.1 h.2.2).1
theorem MB.below {B : Nat} {o : OpV} (h : MB w gw own s B o wi) (hb : Below wi.heap.size wi wj) : MB w gw (upd own wi 8) s B o wj :=
  ⟨h.1.below hb 8, (upd_old h.lt).trans h.2.1, (hb.block B h.lt).trans h.2.2⟩
theorem MB.timers {B k c : Nat} {o : OpV} (h : MB w gw own s B o wi) (hk : k < 2) {T' : List (S36 × Int)} {Hd' : List Int} (hT : TAt wj (s.b k) (s.bl k) (s.bh k) T' Hd') (hg : wi.grownBy wj (some c)) (hc : own c = 1 + k) (id : Nat) : MB w gw (upd own wi id) { s with T := setAt s.T k T', Hd := setAt s.Hd k Hd' } B o wj :=
  ⟨h.1.timers hk hT hg hc id, (upd_old h.lt).trans h.2.1, (hg.block B h.lt (by
    intro e
    injection e with e
    subst e
    have := h.2.1
    omega)).trans h.2.2⟩
theorem MB.ref {B k : Nat} {o : OpV} (h : MB w gw own s B o wi) (hk : k < 2) {L' : List S85} {He' : List Int} (hF : FAt wj (s.g k) (fun x => own' x = 3 + k) L' He') (hf : Frm wi wj (fun x => own x = 3 + k)) (ho : ∀ x, x < wi.heap.size → own' x = own x) : MB w gw own' { s with L := setAt s.L k L', He := setAt s.He k He' } B o wj :=
  ⟨h.1.ref hk hF hf ho, (ho B h.lt).trans h.2.1, (hf.block B h.lt (by
    intro e
    have := h.2.1
    omega)).trans h.2.2⟩
theorem MB.ct {B k : Nat} {o : OpV} (h : MB w gw own s B o wi) (hk : k < 2) : CT own (1 + k) wi (s.b k) (s.bl k) (s.bh k) (s.T k) (s.Hd k) := h.1.2.2.2.1 k hk
theorem MB.cf {B k : Nat} {o : OpV} (h : MB w gw own s B o wi) (hk : k < 2) : FAt wi (s.g k) (fun x => own x = 3 + k) (s.L k) (s.He k) := h.1.2.2.2.2.1 k hk
theorem maxLen_big : 2199023255552 < maxLen := by unfold maxLen; omega
theorem Rel.len {k : Nat} (hr : Rel N s) (h : Mem w gw own s wi) (hk : k < 2) : (s.T k).length = (s.L k).length := (hr.2.1 k hk).1.length (h.2.2.2.1 k hk).1.nodup
theorem goodT_start {T : List (S36 × Int)} (h : goodT T) {q : S36} (hq : WK q) {n : Int} : goodT (startT T q n) := by
  unfold startT
  split
  · rename_i he
    unfold startE at he
    split at he
    · split at he
      · cases he
      · exact goodT_put h hq (by omega) (by omega)
    · cases he
  · exact h
theorem refstop_c {g : Nat} {F : Nat → Prop} {L : List S85} {H : List Int} (h : FAt wi g F L H) (ho : Ord L) (k : S36) (hlen : L.length ≤ 2199023255552) {c : Bool} (hc : c = true ↔ ∃ i, i < L.length ∧ (xAt L i).f0 = k) :
    Calls Try.prog 34 #[.pointer (some ⟨g, 0, none⟩), .agg #[.int .i64 k.f0, .int .i64 k.f1.f0, .int .i64 k.f1.f1, .int .i64 k.f2, .int .i64 k.f3]] wi fun e w' => e = .returned (.bool c) ∧ FAt w' g (New wi F) (L.filter (others k)) H ∧ Frm wi w' F := by
  refine (refstop_any h ho k hlen).mono ?_
  rintro e w' ⟨rfl, r⟩
  refine ⟨?_, r⟩
  congr 2
  rw [Bool.eq_iff_iff, decide_eq_true_iff]; exact hc.symm
set_option maxRecDepth 100000 in
set_option maxHeartbeats 8000000 in
theorem step_start (h : Mem w gw own s wi) (hr : Rel N s) (hN : N < 2199023255552) (o : OpV) (hk1 : OkOp o) (two : Bool) (k : Nat) (hk : k = if two then 1 else 0) (hkind : o.kind = 1) (htwo : o.two = two) :
    Calls Try.prog 25 #[.pointer (some ⟨gw, 0, none⟩), .agg #[.int .i64 1, .bool two, .int .i64 o.k.f0, .int .i64 o.k.f1.f0, .int .i64 o.k.f1.f1, .int .i64 o.k.f2, .int .i64 o.k.f3, .int .i64 o.n]] wi fun e w' => StepPost w gw N e w' := by
  have hk2 : k < 2 := by rw [hk]; split <;> omega
  have HM := Aside0.mk (MB.start h o)
  have HR := Aside0.mk hr
  have HK := Aside0.mk hk1
  have hlen := Aside0.mk (hr.len h hk2)
  have HRK := Aside0.mk (hr.2.1 k hk2)
  obtain ⟨c0, c1, c2, c3, c4, c5⟩ := HM.out.1.cells
  obtain ⟨b0, b1, b2, b3, b4, b5, b6, b7⟩ := box66 HM.out.2.2
  rw [hkind, htwo] at c0 c1 c2 c3 c4 c5 b0 b1 b2 b3 b4 b5 b6 b7
  clear h hr hk1
  cases two
  all_goals
    simp only [if_true, Bool.false_eq_true, if_false] at hk
    subst hk
    go_enter Try.func25, Try.ntmps25
    go_wp2_with fail
    obtain ⟨W0, hW0⟩ : ∃ W0, W0 = wi.alloc (.cells #[.int .i64 o.kind, .bool o.two, .int .i64 o.k.f0, .int .i64 o.k.f1.f0, .int .i64 o.k.f1.f1, .int .i64 o.k.f2, .int .i64 o.k.f3, .int .i64 o.n] 66) := ⟨_, rfl⟩
    rw [← hW0] at HM
    rw [hkind, htwo] at hW0
    rw [← hW0]
    clear hW0 c0 c1 c2 c3 c4 c5 b0 b1 b2 b3 b4 b5 b6 b7
    refine (start_any (HM.out.ct hk2).1 o.k HK.out.2.1 o.n (by rw [hlen.out]; exact Nat.lt_of_le_of_lt HRK.out.2.2.2.1 (Nat.lt_trans hN maxLen_big))).mono ?_
    rintro e w1 ⟨rfl, hT, hg⟩
    have HM1 := Aside0.mk (HM.out.timers hk2 hT hg (HM.out.ct hk2).2.2.1 8)
    obtain ⟨c0, c1, c2, c3, c4, c5⟩ := HM1.out.1.cells
    obtain ⟨b0, b1, b2, b3, b4, b5, b6, b7⟩ := box66 HM1.out.2.2
    clear hT hg
    go_wp2_with fail
    refine (refstart_any (HM1.out.cf hk2) HRK.out.1 o.k o.n (Nat.le_trans HRK.out.2.2.2.1 (Nat.le_of_lt hN))).mono ?_
    rintro e w2 ⟨rfl, ⟨L', hF, hM, hl⟩, hfr⟩
    have HP := Aside0.mk (show ∃ own' s', Mem w gw own' s' w2 ∧ Rel (N + 1) s' from ⟨_, _, (HM1.out.ref hk2 (New.upd hF) hfr (fun x hx => upd_old hx)).1, HR.out.at (Nat.le_succ N) hk2 hM HRK.out.2.1 (goodT_start HRK.out.2.2.1 HK.out.2.1) (Nat.le_trans hl (Nat.succ_le_succ HRK.out.2.2.2.1)) (Nat.le_succ_of_le HRK.out.2.2.2.2.1) (Nat.le_succ_of_le HRK.out.2.2.2.2.2)⟩)
    clear hF hM hl hfr
    go_wp2_with fail
    go_ret
    exact ⟨by simp, HP.out⟩
set_option maxRecDepth 100000 in
set_option maxHeartbeats 8000000 in
theorem step_stop (h : Mem w gw own s wi) (hr : Rel N s) (hN : N < 2199023255552) (o : OpV) (hk1 : OkOp o) (two : Bool) (k : Nat) (hk : k = if two then 1 else 0) (hkind : o.kind = 2) (htwo : o.two = two) :
    Calls Try.prog 25 #[.pointer (some ⟨gw, 0, none⟩), .agg #[.int .i64 2, .bool two, .int .i64 o.k.f0, .int .i64 o.k.f1.f0, .int .i64 o.k.f1.f1, .int .i64 o.k.f2, .int .i64 o.k.f3, .int .i64 o.n]] wi fun e w' => StepPost w gw N e w' := by
  have hk2 : k < 2 := by rw [hk]; split <;> omega
  have HM := Aside0.mk (MB.start h o)
  have HR := Aside0.mk hr
  have HK := Aside0.mk hk1
  have hlen := Aside0.mk (hr.len h hk2)
  have HRK := Aside0.mk (hr.2.1 k hk2)
  obtain ⟨c0, c1, c2, c3, c4, c5⟩ := HM.out.1.cells
  obtain ⟨b0, b1, b2, b3, b4, b5, b6, b7⟩ := box66 HM.out.2.2
  rw [hkind, htwo] at c0 c1 c2 c3 c4 c5 b0 b1 b2 b3 b4 b5 b6 b7
  clear h hr hk1
  cases two
  all_goals
    simp only [if_true, Bool.false_eq_true, if_false] at hk
    subst hk
    go_enter Try.func25, Try.ntmps25
    go_wp2_with fail
    obtain ⟨W0, hW0⟩ : ∃ W0, W0 = wi.alloc (.cells #[.int .i64 o.kind, .bool o.two, .int .i64 o.k.f0, .int .i64 o.k.f1.f0, .int .i64 o.k.f1.f1, .int .i64 o.k.f2, .int .i64 o.k.f3, .int .i64 o.n] 66) := ⟨_, rfl⟩
    rw [← hW0] at HM
    rw [hkind, htwo] at hW0
    rw [← hW0]
    clear hW0 c0 c1 c2 c3 c4 c5 b0 b1 b2 b3 b4 b5 b6 b7
    refine (stop_any (HM.out.ct hk2).1 o.k HK.out.2.1).mono ?_
    rintro e w1 ⟨rfl, hT, hg⟩
    have HM1 := Aside0.mk (HM.out.timers hk2 hT hg (HM.out.ct hk2).2.2.1 8)
    obtain ⟨c0, c1, c2, c3, c4, c5⟩ := HM1.out.1.cells
    obtain ⟨b0, b1, b2, b3, b4, b5, b6, b7⟩ := box66 HM1.out.2.2
    clear hT hg
    go_wp2_with fail
    refine (refstop_c (HM1.out.cf hk2) HRK.out.1.2 o.k (Nat.le_trans HRK.out.2.2.2.1 (Nat.le_of_lt hN)) (decide_eq_true_iff.trans HRK.out.1.mem_keys)).mono ?_
    rintro e w2 ⟨rfl, hF, hfr⟩
    have HP := Aside0.mk (show ∃ own' s', Mem w gw own' s' w2 ∧ Rel (N + 1) s' from ⟨_, _, (HM1.out.ref hk2 (New.upd hF) hfr (fun x hx => upd_old hx)).1, HR.out.at (Nat.le_succ N) hk2 (HRK.out.1.del o.k) HRK.out.2.1 (goodT_sub HRK.out.2.2.1 (fun p hp => (mem_delT.1 hp).1)) (Nat.le_succ_of_le (Nat.le_trans (List.length_filter_le _ _) HRK.out.2.2.2.1)) (Nat.le_succ_of_le HRK.out.2.2.2.2.1) (Nat.le_succ_of_le HRK.out.2.2.2.2.2)⟩)
    clear hF hfr
    go_wp2_with fail
    go_ret
    exact ⟨by simp, HP.out⟩
set_option maxRecDepth 100000 in
set_option maxHeartbeats 8000000 in
theorem step_drop (h : Mem w gw own s wi) (hr : Rel N s) (hN : N < 2199023255552) (o : OpV) (hk1 : OkOp o) (two : Bool) (k : Nat) (hk : k = if two then 1 else 0) (hkind : o.kind = 3) (htwo : o.two = two) :
    Calls Try.prog 25 #[.pointer (some ⟨gw, 0, none⟩), .agg #[.int .i64 3, .bool two, .int .i64 o.k.f0, .int .i64 o.k.f1.f0, .int .i64 o.k.f1.f1, .int .i64 o.k.f2, .int .i64 o.k.f3, .int .i64 o.n]] wi fun e w' => StepPost w gw N e w' := by
  have hk2 : k < 2 := by rw [hk]; split <;> omega
  have HM := Aside0.mk (MB.start h o)
  have HR := Aside0.mk hr
  have HK := Aside0.mk hk1
  have hlen := Aside0.mk (hr.len h hk2)
  have HRK := Aside0.mk (hr.2.1 k hk2)
  obtain ⟨c0, c1, c2, c3, c4, c5⟩ := HM.out.1.cells
  obtain ⟨b0, b1, b2, b3, b4, b5, b6, b7⟩ := box66 HM.out.2.2
  rw [hkind, htwo] at c0 c1 c2 c3 c4 c5 b0 b1 b2 b3 b4 b5 b6 b7
  have HLD := Aside0.mk (show wrap64 (((s.T k).length : Int) - (dropT (s.T k) o.k.f1).length) = ((s.L k).length : Int) - ((s.L k).filter (notOf o.k.f1)).length by
    have hMD := HRK.out.1.drop o.k.f1
    have hld := hMD.length ((List.Sublist.map _ List.filter_sublist).nodup (HM.out.ct hk2).1.nodup)
    have hll := hlen.out
    have hfl := List.length_filter_le (notOf o.k.f1) (s.L k)
    have hbd := HRK.out.2.2.2.1
    change (dropT (s.T k) o.k.f1).length = ((s.L k).filter (notOf o.k.f1)).length at hld
    rw [hld, hll]; unfold wrap64; omega)
  clear h hr hk1
  cases two
  all_goals
    simp only [if_true, Bool.false_eq_true, if_false] at hk
    subst hk
    go_enter Try.func25, Try.ntmps25
    go_wp2_with fail
    obtain ⟨W0, hW0⟩ : ∃ W0, W0 = wi.alloc (.cells #[.int .i64 o.kind, .bool o.two, .int .i64 o.k.f0, .int .i64 o.k.f1.f0, .int .i64 o.k.f1.f1, .int .i64 o.k.f2, .int .i64 o.k.f3, .int .i64 o.n] 66) := ⟨_, rfl⟩
    rw [← hW0] at HM
    rw [hkind, htwo] at hW0
    rw [← hW0]
    clear hW0 c0 c1 c2 c3 c4 c5 b0 b1 b2 b3 b4 b5 b6 b7
    refine (drop_any (HM.out.ct hk2).1 o.k.f1).mono ?_
    rintro e w1 ⟨rfl, hT, hg⟩
    have HM1 := Aside0.mk (HM.out.timers hk2 hT hg (HM.out.ct hk2).2.2.1 8)
    rw [HLD.out]
    obtain ⟨c0, c1, c2, c3, c4, c5⟩ := HM1.out.1.cells
    obtain ⟨b0, b1, b2, b3, b4, b5, b6, b7⟩ := box66 HM1.out.2.2
    clear hT hg
    go_wp2_with fail
    refine (refdrop_any (HM1.out.cf hk2) o.k.f1 (Nat.le_trans HRK.out.2.2.2.1 (Nat.le_of_lt hN))).mono ?_
    rintro e w2 ⟨rfl, hF, hfr⟩
    have HP := Aside0.mk (show ∃ own' s', Mem w gw own' s' w2 ∧ Rel (N + 1) s' from ⟨_, _, (HM1.out.ref hk2 (New.upd hF) hfr (fun x hx => upd_old hx)).1, HR.out.at (Nat.le_succ N) hk2 (HRK.out.1.drop o.k.f1) HRK.out.2.1 (goodT_sub HRK.out.2.2.1 (fun p hp => (List.mem_filter.1 hp).1)) (Nat.le_succ_of_le (Nat.le_trans (List.length_filter_le _ _) HRK.out.2.2.2.1)) (Nat.le_succ_of_le HRK.out.2.2.2.2.1) (Nat.le_succ_of_le HRK.out.2.2.2.2.2)⟩)
    clear hF hfr
    go_wp2_with fail
    go_ret
    exact ⟨by simp, HP.out⟩
set_option maxRecDepth 100000 in
set_option maxHeartbeats 8000000 in
theorem step_hold (h : Mem w gw own s wi) (hr : Rel N s) (hN : N < 2199023255552) (o : OpV) (hk1 : OkOp o) (two : Bool) (k : Nat) (hk : k = if two then 1 else 0) (hkind : o.kind = 4) (htwo : o.two = two) :
    Calls Try.prog 25 #[.pointer (some ⟨gw, 0, none⟩), .agg #[.int .i64 4, .bool two, .int .i64 o.k.f0, .int .i64 o.k.f1.f0, .int .i64 o.k.f1.f1, .int .i64 o.k.f2, .int .i64 o.k.f3, .int .i64 o.n]] wi fun e w' => StepPost w gw N e w' := by
  have hk2 : k < 2 := by rw [hk]; split <;> omega
  have HM := Aside0.mk (MB.start h o)
  have HR := Aside0.mk hr
  have HK := Aside0.mk hk1
  have hlen := Aside0.mk (hr.len h hk2)
  have HRK := Aside0.mk (hr.2.1 k hk2)
  obtain ⟨c0, c1, c2, c3, c4, c5⟩ := HM.out.1.cells
  obtain ⟨b0, b1, b2, b3, b4, b5, b6, b7⟩ := box66 HM.out.2.2
  rw [hkind, htwo] at c0 c1 c2 c3 c4 c5 b0 b1 b2 b3 b4 b5 b6 b7
  clear h hr hk1
  cases two
  all_goals
    simp only [if_true, Bool.false_eq_true, if_false] at hk
    subst hk
    go_enter Try.func25, Try.ntmps25
    go_wp2_with fail
    obtain ⟨W0, hW0⟩ : ∃ W0, W0 = wi.alloc (.cells #[.int .i64 o.kind, .bool o.two, .int .i64 o.k.f0, .int .i64 o.k.f1.f0, .int .i64 o.k.f1.f1, .int .i64 o.k.f2, .int .i64 o.k.f3, .int .i64 o.n] 66) := ⟨_, rfl⟩
    rw [← hW0] at HM
    rw [hkind, htwo] at hW0
    rw [← hW0]
    clear hW0 c0 c1 c2 c3 c4 c5 b0 b1 b2 b3 b4 b5 b6 b7
    refine (hold_any (HM.out.ct hk2).1 o.n HK.out.2.2 (Nat.lt_of_le_of_lt HRK.out.2.2.2.2.1 (Nat.lt_trans hN maxLen_big))).mono ?_
    rintro e w1 ⟨rfl, ⟨Hd', hT, hm, hl⟩, hg⟩
    have HM1 := Aside0.mk (HM.out.timers hk2 hT hg (HM.out.ct hk2).2.2.2 8)
    have HMM := Aside0.mk hm
    have HML := Aside0.mk hl
    obtain ⟨c0, c1, c2, c3, c4, c5⟩ := HM1.out.1.cells
    obtain ⟨b0, b1, b2, b3, b4, b5, b6, b7⟩ := box66 HM1.out.2.2
    clear hT hg hm hl
    go_wp2_with fail
    refine (refhold_any (HM1.out.cf hk2) o.n (Nat.le_trans HRK.out.2.2.2.2.2 (Nat.le_of_lt hN))).mono ?_
    rintro e w2 ⟨rfl, hF, hfr⟩
    have HP := Aside0.mk (show ∃ own' s', Mem w gw own' s' w2 ∧ Rel (N + 1) s' from ⟨_, _, (HM1.out.ref hk2 (New.upd hF) hfr (fun x hx => upd_old hx)).1, HR.out.at (Nat.le_succ N) hk2 HRK.out.1 (fun m => by
      rw [HMM.out m, HRK.out.2.1 m]
      split
      · rename_i hin
        exact ⟨fun h => h.elim (fun e => e ▸ hin) id, .inr⟩
      · rw [List.mem_append, List.mem_singleton]; exact Or.comm) HRK.out.2.2.1 (Nat.le_succ_of_le HRK.out.2.2.2.1) (Nat.le_trans HML.out (Nat.succ_le_succ HRK.out.2.2.2.2.1)) (by
      have := HRK.out.2.2.2.2.2
      dsimp only
      split
      · omega
      · rw [List.length_append]; simp; omega)⟩)
    clear hF hfr
    go_wp2_with fail
    go_ret
    exact ⟨by first | rfl | simp, HP.out⟩
set_option maxRecDepth 100000 in
set_option maxHeartbeats 8000000 in
theorem step_go (h : Mem w gw own s wi) (hr : Rel N s) (hN : N < 2199023255552) (o : OpV) (hk1 : OkOp o) (two : Bool) (k : Nat) (hk : k = if two then 1 else 0) (hkind : o.kind = 5) (htwo : o.two = two) :
    Calls Try.prog 25 #[.pointer (some ⟨gw, 0, none⟩), .agg #[.int .i64 5, .bool two, .int .i64 o.k.f0, .int .i64 o.k.f1.f0, .int .i64 o.k.f1.f1, .int .i64 o.k.f2, .int .i64 o.k.f3, .int .i64 o.n]] wi fun e w' => StepPost w gw N e w' := by
  have hk2 : k < 2 := by rw [hk]; split <;> omega
  have HM := Aside0.mk (MB.start h o)
  have HR := Aside0.mk hr
  have HK := Aside0.mk hk1
  have hlen := Aside0.mk (hr.len h hk2)
  have HRK := Aside0.mk (hr.2.1 k hk2)
  obtain ⟨c0, c1, c2, c3, c4, c5⟩ := HM.out.1.cells
  obtain ⟨b0, b1, b2, b3, b4, b5, b6, b7⟩ := box66 HM.out.2.2
  rw [hkind, htwo] at c0 c1 c2 c3 c4 c5 b0 b1 b2 b3 b4 b5 b6 b7
  clear h hr hk1
  cases two
  all_goals
    simp only [if_true, Bool.false_eq_true, if_false] at hk
    subst hk
    go_enter Try.func25, Try.ntmps25
    go_wp2_with fail
    obtain ⟨W0, hW0⟩ : ∃ W0, W0 = wi.alloc (.cells #[.int .i64 o.kind, .bool o.two, .int .i64 o.k.f0, .int .i64 o.k.f1.f0, .int .i64 o.k.f1.f1, .int .i64 o.k.f2, .int .i64 o.k.f3, .int .i64 o.n] 66) := ⟨_, rfl⟩
    rw [← hW0] at HM
    rw [hkind, htwo] at hW0
    rw [← hW0]
    clear hW0 c0 c1 c2 c3 c4 c5 b0 b1 b2 b3 b4 b5 b6 b7
    refine (go_any (HM.out.ct hk2).1 o.n HK.out.2.2).mono ?_
    rintro e w1 ⟨rfl, ⟨Hd', hT, hm, hl⟩, hg⟩
    have HM1 := Aside0.mk (HM.out.timers hk2 hT hg (HM.out.ct hk2).2.2.2 8)
    have HMM := Aside0.mk hm
    have HML := Aside0.mk hl
    obtain ⟨c0, c1, c2, c3, c4, c5⟩ := HM1.out.1.cells
    obtain ⟨b0, b1, b2, b3, b4, b5, b6, b7⟩ := box66 HM1.out.2.2
    clear hT hg hm hl
    go_wp2_with fail
    refine (refgo_any (HM1.out.cf hk2) o.n (Nat.le_trans HRK.out.2.2.2.2.2 (Nat.le_of_lt hN))).mono ?_
    rintro e w2 ⟨rfl, hF, hfr⟩
    have HP := Aside0.mk (show ∃ own' s', Mem w gw own' s' w2 ∧ Rel (N + 1) s' from ⟨_, _, (HM1.out.ref hk2 (New.upd hF) hfr (fun x hx => upd_old hx)).1, HR.out.at (Nat.le_succ N) hk2 HRK.out.1 (fun m => by
      rw [HMM.out m, HRK.out.2.1 m, List.mem_filter]
      unfold neP
      simp [And.comm]) HRK.out.2.2.1 (Nat.le_succ_of_le HRK.out.2.2.2.1) (Nat.le_succ_of_le (Nat.le_trans HML.out HRK.out.2.2.2.2.1)) (Nat.le_succ_of_le (Nat.le_trans (List.length_filter_le _ _) HRK.out.2.2.2.2.2))⟩)
    clear hF hfr
    go_wp2_with fail
    go_ret
    exact ⟨by first | rfl | simp, HP.out⟩
set_option maxRecDepth 100000 in
set_option maxHeartbeats 8000000 in
theorem step_left_yes (h : Mem w gw own s wi) (hr : Rel N s) (hN : N < 2199023255552) (o : OpV) (hk1 : OkOp o) (two : Bool) (k : Nat) (hk : k = if two then 1 else 0) (hkind : o.kind = 7) (hin : o.k ∈ keysT (s.T k)) (htwo : o.two = two) :
    Calls Try.prog 25 #[.pointer (some ⟨gw, 0, none⟩), .agg #[.int .i64 7, .bool two, .int .i64 o.k.f0, .int .i64 o.k.f1.f0, .int .i64 o.k.f1.f1, .int .i64 o.k.f2, .int .i64 o.k.f3, .int .i64 o.n]] wi fun e w' => StepPost w gw N e w' := by
  have hk2 : k < 2 := by rw [hk]; split <;> omega
  have HM := Aside0.mk (MB.start h o)
  have HR := Aside0.mk hr
  have HK := Aside0.mk hk1
  have hlen := Aside0.mk (hr.len h hk2)
  have HRK := Aside0.mk (hr.2.1 k hk2)
  obtain ⟨c0, c1, c2, c3, c4, c5⟩ := HM.out.1.cells
  obtain ⟨b0, b1, b2, b3, b4, b5, b6, b7⟩ := box66 HM.out.2.2
  rw [hkind, htwo] at c0 c1 c2 c3 c4 c5 b0 b1 b2 b3 b4 b5 b6 b7
  have HIN := Aside0.mk hin
  clear hin
  clear h hr hk1
  cases two
  all_goals
    simp only [if_true, Bool.false_eq_true, if_false] at hk
    subst hk
    go_enter Try.func25, Try.ntmps25
    go_wp2_with fail
    obtain ⟨W0, hW0⟩ : ∃ W0, W0 = wi.alloc (.cells #[.int .i64 o.kind, .bool o.two, .int .i64 o.k.f0, .int .i64 o.k.f1.f0, .int .i64 o.k.f1.f1, .int .i64 o.k.f2, .int .i64 o.k.f3, .int .i64 o.n] 66) := ⟨_, rfl⟩
    rw [← hW0] at HM
    rw [hkind, htwo] at hW0
    rw [← hW0]
    clear hW0 c0 c1 c2 c3 c4 c5 b0 b1 b2 b3 b4 b5 b6 b7
    obtain ⟨j, hj, ej⟩ := HRK.out.1.mem_keys.1 HIN.out
    have HMT := Aside0.mk ((HRK.out.1.1 o.k (xAt (s.L _) j).f1).2 (by
      have hm := xAt_mem hj
      have e2 : xAt (s.L _) j = ⟨o.k, (xAt (s.L _) j).f1⟩ := S85_ext ej rfl
      rw [e2] at hm; exact hm))
    have HEJ := Aside0.mk ej
    clear ej
    refine (left_yes (HM.out.ct hk2).1 HK.out.2.1 HMT.out).mono ?_
    rintro e w1 ⟨rfl, hb⟩
    have HM1 := Aside0.mk (HM.out.below hb)
    obtain ⟨c0, c1, c2, c3, c4, c5⟩ := HM1.out.1.cells
    obtain ⟨b0, b1, b2, b3, b4, b5, b6, b7⟩ := box66 HM1.out.2.2
    clear hb
    go_wp2_with fail
    refine (rleft_at (HM1.out.cf hk2) HRK.out.1.2 hj HEJ.out (Nat.le_trans HRK.out.2.2.2.1 (Nat.le_of_lt hN))).mono ?_
    rintro e w2 ⟨rfl, hb⟩
    have HP := Aside0.mk (show ∃ own' s', Mem w gw own' s' w2 ∧ Rel (N + 1) s' from ⟨_, _, (HM1.out.below hb).1, HR.out.mono (Nat.le_succ N)⟩)
    clear hb
    go_wp2_with fail
    go_ret
    exact ⟨by first | rfl | simp, HP.out⟩
set_option maxRecDepth 100000 in
set_option maxHeartbeats 8000000 in
theorem step_left_no (h : Mem w gw own s wi) (hr : Rel N s) (hN : N < 2199023255552) (o : OpV) (hk1 : OkOp o) (two : Bool) (k : Nat) (hk : k = if two then 1 else 0) (hkind : o.kind = 7) (hin : o.k ∉ keysT (s.T k)) (htwo : o.two = two) :
    Calls Try.prog 25 #[.pointer (some ⟨gw, 0, none⟩), .agg #[.int .i64 7, .bool two, .int .i64 o.k.f0, .int .i64 o.k.f1.f0, .int .i64 o.k.f1.f1, .int .i64 o.k.f2, .int .i64 o.k.f3, .int .i64 o.n]] wi fun e w' => StepPost w gw N e w' := by
  have hk2 : k < 2 := by rw [hk]; split <;> omega
  have HM := Aside0.mk (MB.start h o)
  have HR := Aside0.mk hr
  have HK := Aside0.mk hk1
  have hlen := Aside0.mk (hr.len h hk2)
  have HRK := Aside0.mk (hr.2.1 k hk2)
  obtain ⟨c0, c1, c2, c3, c4, c5⟩ := HM.out.1.cells
  obtain ⟨b0, b1, b2, b3, b4, b5, b6, b7⟩ := box66 HM.out.2.2
  rw [hkind, htwo] at c0 c1 c2 c3 c4 c5 b0 b1 b2 b3 b4 b5 b6 b7
  have HIN := Aside0.mk hin
  clear hin
  clear h hr hk1
  cases two
  all_goals
    simp only [if_true, Bool.false_eq_true, if_false] at hk
    subst hk
    go_enter Try.func25, Try.ntmps25
    go_wp2_with fail
    obtain ⟨W0, hW0⟩ : ∃ W0, W0 = wi.alloc (.cells #[.int .i64 o.kind, .bool o.two, .int .i64 o.k.f0, .int .i64 o.k.f1.f0, .int .i64 o.k.f1.f1, .int .i64 o.k.f2, .int .i64 o.k.f3, .int .i64 o.n] 66) := ⟨_, rfl⟩
    rw [← hW0] at HM
    rw [hkind, htwo] at hW0
    rw [← hW0]
    clear hW0 c0 c1 c2 c3 c4 c5 b0 b1 b2 b3 b4 b5 b6 b7
    refine (left_no (HM.out.ct hk2).1 HK.out.2.1 HIN.out).mono ?_
    rintro e w1 ⟨rfl, hb⟩
    have HM1 := Aside0.mk (HM.out.below hb)
    obtain ⟨c0, c1, c2, c3, c4, c5⟩ := HM1.out.1.cells
    obtain ⟨b0, b1, b2, b3, b4, b5, b6, b7⟩ := box66 HM1.out.2.2
    clear hb
    go_wp2_with fail
    refine (rleft_no (HM1.out.cf hk2) (fun i hi e => HIN.out (HRK.out.1.mem_keys.2 ⟨i, hi, e⟩)) (Nat.le_trans HRK.out.2.2.2.1 (Nat.le_of_lt hN))).mono ?_
    rintro e w2 ⟨rfl, hb⟩
    have HP := Aside0.mk (show ∃ own' s', Mem w gw own' s' w2 ∧ Rel (N + 1) s' from ⟨_, _, (HM1.out.below hb).1, HR.out.mono (Nat.le_succ N)⟩)
    clear hb
    go_wp2_with fail
    go_ret
    exact ⟨by first | rfl | simp, HP.out⟩
set_option maxRecDepth 100000 in
set_option maxHeartbeats 8000000 in
theorem step_count (h : Mem w gw own s wi) (hr : Rel N s) (hN : N < 2199023255552) (o : OpV) (hk1 : OkOp o) (two : Bool) (k : Nat) (hk : k = if two then 1 else 0) (hkind : o.kind = 8) (htwo : o.two = two) :
    Calls Try.prog 25 #[.pointer (some ⟨gw, 0, none⟩), .agg #[.int .i64 8, .bool two, .int .i64 o.k.f0, .int .i64 o.k.f1.f0, .int .i64 o.k.f1.f1, .int .i64 o.k.f2, .int .i64 o.k.f3, .int .i64 o.n]] wi fun e w' => StepPost w gw N e w' := by
  have hk2 : k < 2 := by rw [hk]; split <;> omega
  have HM := Aside0.mk (MB.start h o)
  have HR := Aside0.mk hr
  have HK := Aside0.mk hk1
  have hlen := Aside0.mk (hr.len h hk2)
  have HRK := Aside0.mk (hr.2.1 k hk2)
  obtain ⟨c0, c1, c2, c3, c4, c5⟩ := HM.out.1.cells
  obtain ⟨b0, b1, b2, b3, b4, b5, b6, b7⟩ := box66 HM.out.2.2
  rw [hkind, htwo] at c0 c1 c2 c3 c4 c5 b0 b1 b2 b3 b4 b5 b6 b7
  clear h hr hk1
  cases two
  all_goals
    simp only [if_true, Bool.false_eq_true, if_false] at hk
    subst hk
    go_enter Try.func25, Try.ntmps25
    go_wp2_with fail
    obtain ⟨W0, hW0⟩ : ∃ W0, W0 = wi.alloc (.cells #[.int .i64 o.kind, .bool o.two, .int .i64 o.k.f0, .int .i64 o.k.f1.f0, .int .i64 o.k.f1.f1, .int .i64 o.k.f2, .int .i64 o.k.f3, .int .i64 o.n] 66) := ⟨_, rfl⟩
    rw [← hW0] at HM
    rw [hkind, htwo] at hW0
    rw [← hW0]
    clear hW0 c0 c1 c2 c3 c4 c5 b0 b1 b2 b3 b4 b5 b6 b7
    refine (count_any (HM.out.ct hk2).1).mono ?_
    rintro e w1 ⟨rfl, rfl⟩
    rw [hlen.out]
    obtain ⟨c0, c1, c2, c3, c4, c5⟩ := HM.out.1.cells
    obtain ⟨b0, b1, b2, b3, b4, b5, b6, b7⟩ := box66 HM.out.2.2
    go_wp2_with fail
    refine (rcount_any (HM.out.cf hk2)).mono ?_
    rintro e w2 ⟨rfl, rfl⟩
    have HP := Aside0.mk (show ∃ own' s', Mem w gw own' s' w2 ∧ Rel (N + 1) s' from ⟨_, _, HM.out.1, HR.out.mono (Nat.le_succ N)⟩)
    go_wp2_with fail
    go_ret
    exact ⟨by simp, HP.out⟩
set_option maxRecDepth 100000 in
set_option maxHeartbeats 8000000 in
theorem step_none (h : Mem w gw own s wi) (hr : Rel N s) (hN : N < 2199023255552) (o : OpV) (hk1 : OkOp o) (two : Bool) (k : Nat) (hk : k = if two then 1 else 0) (kd : Int) (hkind : o.kind = kd) (hn : ¬ (1 ≤ kd ∧ kd ≤ 8)) (htwo : o.two = two) :
    Calls Try.prog 25 #[.pointer (some ⟨gw, 0, none⟩), .agg #[.int .i64 kd, .bool two, .int .i64 o.k.f0, .int .i64 o.k.f1.f0, .int .i64 o.k.f1.f1, .int .i64 o.k.f2, .int .i64 o.k.f3, .int .i64 o.n]] wi fun e w' => StepPost w gw N e w' := by
  have hk2 : k < 2 := by rw [hk]; split <;> omega
  have HM := Aside0.mk (MB.start h o)
  have HR := Aside0.mk hr
  have HK := Aside0.mk hk1
  have hlen := Aside0.mk (hr.len h hk2)
  have HRK := Aside0.mk (hr.2.1 k hk2)
  obtain ⟨c0, c1, c2, c3, c4, c5⟩ := HM.out.1.cells
  obtain ⟨b0, b1, b2, b3, b4, b5, b6, b7⟩ := box66 HM.out.2.2
  rw [hkind, htwo] at c0 c1 c2 c3 c4 c5 b0 b1 b2 b3 b4 b5 b6 b7
  have n1 : (kd == 1) = false := beq_eq_false_iff_ne.mpr (by omega)
  have n2 : (kd == 2) = false := beq_eq_false_iff_ne.mpr (by omega)
  have n3 : (kd == 3) = false := beq_eq_false_iff_ne.mpr (by omega)
  have n4 : (kd == 4) = false := beq_eq_false_iff_ne.mpr (by omega)
  have n5 : (kd == 5) = false := beq_eq_false_iff_ne.mpr (by omega)
  have n6 : (kd == 6) = false := beq_eq_false_iff_ne.mpr (by omega)
  have n7 : (kd == 7) = false := beq_eq_false_iff_ne.mpr (by omega)
  have n8 : (kd == 8) = false := beq_eq_false_iff_ne.mpr (by omega)
  clear h hr hk1
  cases two
  all_goals
    simp only [if_true, Bool.false_eq_true, if_false] at hk
    subst hk
    go_enter Try.func25, Try.ntmps25
    go_wp2_with fail
    go_ret
    rw [hkind, htwo] at HM
    exact ⟨rfl, _, _, HM.out.1, HR.out.mono (Nat.le_succ N)⟩
end Go.Proofs.Ytkndjjceijfdgaa.PAll

namespace Go.Proofs.Ytkndjjceijfdgaa.PAll
open Go.RowKit Go.Proofs.YtkndjjceijfdgaaW.PrintWords Go.Proofs.YtkndjjceijfdgaaW.PrintLast Go.Proofs.YtkndjjceijfdgaaW.PrintMore Go.Proofs.YtkndjjceijfdgaaM
set_option linter.unusedVariables false
set_option linter.unusedSimpArgs false
variable {w wi wj : World} {gw id N : Nat} {own own' : Nat → Nat} {s : WS}
/-- The owners behind the document's tick: the list that came out is j's, all other new blocks are i's. -/
def upd2 (own : Nat → Nat) (wi : World) (v : Value) (j i : Nat) : Nat → Nat := fun x => if x < wi.heap.size then own x else if some x = v.ownBlock then j else i
theorem upd2_old {v : Value} {j i x : Nat} (hx : x < wi.heap.size) : upd2 own wi v j i x = own x := if_pos hx
theorem Rel.push {k : Nat} {T' : List (S36 × Int)} {L' : List S85} {os : List S36} {vo vw : Value} {l l2 : Sl} (h : Rel N s) (hk : k < 2) (h1 : MR T' L') (h3 : goodT T') (h4 : L'.length ≤ N) (h5 : os.length ≤ N) :
    Rel (N + 1) { s with T := setAt s.T k T', Hd := setAt s.Hd k (s.Hd k), L := setAt s.L k L', He := setAt s.He k (s.He k), vo := vo, vw := vw, ss := s.ss ++ [l], ws := s.ws ++ [l2], xss := s.xss ++ [os] } := by
  have h0 := h.2.1 k hk
  have hr := h.at (Nat.le_succ N) hk h1 h0.2.1 h3 (Nat.le_succ_of_le h4) (Nat.le_succ_of_le h0.2.2.2.2.1) (Nat.le_succ_of_le h0.2.2.2.2.2)
  refine ⟨⟨?_, ?_⟩, hr.2.1, ?_, fun xs hx => ?_⟩
  · show (s.ss ++ [l]).length = (s.xss ++ [os]).length
    rw [List.length_append, List.length_append, h.1.1]; rfl
  · show (s.ws ++ [l2]).length = (s.xss ++ [os]).length
    rw [List.length_append, List.length_append, h.1.2]; rfl
  · show (s.xss ++ [os]).length ≤ N + 1
    rw [List.length_append]
    have := h.2.2.1
    simp only [List.length_cons, List.length_nil]; omega
  · rcases List.mem_append.1 hx with hx | hx
    · exact Nat.le_succ_of_le (h.2.2.2 xs hx)
    · have : xs = os := by simpa using hx
      rw [this]; omega
set_option maxRecDepth 100000 in
set_option maxHeartbeats 16000000 in
theorem step_tick0 (h : Mem w gw own s wi) (hr : Rel N s) (hN : N < 2199023255552) (o : OpV) (hkind : o.kind = 6) (htwo : o.two = false) :
    Calls Try.prog 25 #[.pointer (some ⟨gw, 0, none⟩), .agg #[.int .i64 6, .bool false, .int .i64 o.k.f0, .int .i64 o.k.f1.f0, .int .i64 o.k.f1.f1, .int .i64 o.k.f2, .int .i64 o.k.f3, .int .i64 o.n]] wi fun e w' => StepPost w gw N e w' := by
  have hk2 : 0 < 2 := by decide
  have HM := Aside0.mk (MB.start h o)
  have HR := Aside0.mk hr
  have hlen := Aside0.mk (hr.len h hk2)
  have HRK := Aside0.mk (hr.2.1 0 hk2)
  have HLX := Aside0.mk (show ∀ x ∈ s.L 0, 1 ≤ x.f1 ∧ x.f1 ≤ 1048576 from fun x hx => (HRK.out.2.2.1 (x.f0, x.f1) ((HRK.out.1.1 _ _).2 hx)).2)
  have HSS := Aside0.mk (show (s.ss.length + 1) * 24 ≤ 140737488355328 ∧ (s.ws.length + 1) * 24 ≤ 140737488355328 by
    have h1 := hr.1
    have h2 := hr.2.2.1
    omega)
  have HXL := Aside0.mk hr.1
  obtain ⟨os, hos⟩ : ∃ os, os = outS (s.He 0) (s.L 0) := ⟨_, rfl⟩
  have HOS := Aside0.mk hos.symm
  have HOL := Aside0.mk (show os.length ≤ N by rw [hos]; exact Nat.le_trans (outS_len _ _) HRK.out.2.2.2.1)
  clear hos
  obtain ⟨c0, c1, c2, c3, c4, c5⟩ := HM.out.1.cells
  obtain ⟨b0, b1, b2, b3, b4, b5, b6, b7⟩ := box66 HM.out.2.2
  rw [hkind, htwo] at c0 c1 c2 c3 c4 c5 b0 b1 b2 b3 b4 b5 b6 b7
  clear h hr
  go_enter Try.func25, Try.ntmps25
  go_wp2_with fail
  obtain ⟨W0, hW0⟩ : ∃ W0, W0 = wi.alloc (.cells #[.int .i64 o.kind, .bool o.two, .int .i64 o.k.f0, .int .i64 o.k.f1.f0, .int .i64 o.k.f1.f1, .int .i64 o.k.f2, .int .i64 o.k.f3, .int .i64 o.n] 66) := ⟨_, rfl⟩
  rw [← hW0] at HM
  rw [hkind, htwo] at hW0
  rw [← hW0]
  clear hW0 c0 c1 c2 c3 c4 c5 b0 b1 b2 b3 b4 b5 b6 b7
  obtain ⟨own0, hown0⟩ : ∃ own0, own0 = upd own wi 8 := ⟨_, rfl⟩
  rw [← hown0] at HM
  clear hown0
  have HMR := Aside0.mk ((HRK.out.1.out (HM.out.ct hk2).1.nodup HRK.out.2.1).trans HOS.out)
  refine (tick_big (HM.out.ct hk2).1 HRK.out.2.2.1 (by rw [hlen.out]; exact Nat.le_trans HRK.out.2.2.2.1 (Nat.le_of_lt hN))).mono ?_
  rintro e w1 ⟨x1, rfl, hR, hT, hg⟩
  rw [HMR.out] at hR
  obtain ⟨A1, cp1, rfl, hle1, _⟩ := Kd.R_reads hR
  have HM1 := Aside0.mk (HM.out.timers hk2 hT hg (HM.out.ct hk2).2.2.1 (10 + 2 * s.xss.length))
  have HX1 := Aside0.mk (R36_own (ok' := fun x => upd own0 W0 (10 + 2 * s.xss.length) x = 10 + 2 * s.xss.length) hR (fun k _ hk => upd_new (by omega)))
  have HLE1 := Aside0.mk hle1
  obtain ⟨own1, hown1⟩ : ∃ own1, own1 = upd own0 W0 (10 + 2 * s.xss.length) := ⟨_, rfl⟩
  rw [← hown1] at HM1 HX1
  clear hown1
  obtain ⟨c0, c1, c2, c3, c4, c5⟩ := HM1.out.1.cells
  clear hT hg hR hle1
  go_wp2_with fail
  have hcf := HM1.out.cf hk2
  dsimp only at hcf
  refine (reftick_any hcf (Nat.le_trans HRK.out.2.2.2.1 (Nat.le_of_lt hN)) (Nat.le_trans HRK.out.2.2.2.2.2 (Nat.le_of_lt hN)) HLX.out).mono ?_
  rintro e w2 ⟨A2, cp2, rfl, hY, hF, hfr⟩
  rw [HOS.out] at hY ⊢
  obtain ⟨own2, hown2⟩ : ∃ own2, own2 = upd2 own1 w1 (.slice A2 os.length cp2) (11 + 2 * s.xss.length) (3 + 0) := ⟨_, rfl⟩
  have ho2 : ∀ x, x < w1.heap.size → own2 x = own1 x := fun x hx => by rw [hown2]; exact upd2_old hx
  have hF2 := (F_row hF hY).mono (F2 := fun x => own2 x = 3 + 0) (fun x _ hx => by
    rw [hown2]
    unfold upd2
    by_cases hlt : x < w1.heap.size
    · rw [if_pos hlt]; exact hx.1.elim id (fun h => by omega)
    · rw [if_neg hlt, if_neg hx.2])
  have HM2 : Aside0 (Mem w gw own2 { s with T := setAt s.T 0 (tickT (s.Hd 0) (s.T 0)), Hd := setAt s.Hd 0 (s.Hd 0), L := setAt s.L 0 (tickS (s.He 0) (s.L 0)), He := setAt s.He 0 (s.He 0) } w2) := Aside0.mk (HM1.out.1.ref hk2 hF2 hfr ho2)
  have HX2 := Aside0.mk (show Kd.R k36 36 w2 0 (fun x => own2 x = 10 + 2 * s.xss.length) (encS ⟨A1, os.length, cp1⟩) os from R_frm (I := fun i => i = 3 + 0) HX1.out hfr (by omega) ho2)
  have HY2 := Aside0.mk (show Kd.R k36 36 w2 0 (fun x => own2 x = 11 + 2 * s.xss.length) (encS ⟨A2, os.length, cp2⟩) os from R36_own hY (fun k hk hk' => by
    rw [hown2]; unfold upd2; rw [if_neg (by omega), if_pos (show some k = (Value.slice A2 os.length cp2).ownBlock from hk.symm)]))
  have HLE2 := Aside0.mk (Kd.R_reads' hY).2.1
  obtain ⟨s2, hs2⟩ : ∃ s2 : WS, s2 = { s with T := setAt s.T 0 (tickT (s.Hd 0) (s.T 0)), Hd := setAt s.Hd 0 (s.Hd 0), L := setAt s.L 0 (tickS (s.He 0) (s.L 0)), He := setAt s.He 0 (s.He 0) } := ⟨_, rfl⟩
  rw [← hs2] at HM2
  have HS2 := Aside0.mk hs2
  have HE := Aside0.mk (show s2.ss = s.ss ∧ s2.ws = s.ws ∧ s2.xss = s.xss by rw [hs2]; exact ⟨rfl, rfl, rfl⟩)
  clear hown2 hs2 ho2 hF hY hfr hF2 hcf c0 c1 c2 c3 c4 c5
  obtain ⟨Ao, co, hvo, _⟩ := Kd.R_reads HM2.out.2.2.2.2.2.1
  obtain ⟨Aw, cw, hvw, _⟩ := Kd.R_reads HM2.out.2.2.2.2.2.2.1
  have HVO := Aside0.mk hvo
  have HVW := Aside0.mk hvw
  have HO2 := Aside0.mk (show Kd.R kS 30 w2 0 (fun x => upd own2 w2 5 x = 5) (.slice Ao s2.ss.length co) s2.ss by
    rw [← hvo]; exact Kd.R_mono (Kd.R_bound HM2.out.2.2.2.2.2.1) (fun k hk => (upd_old hk.2.2.1).trans hk.1))
  obtain ⟨c0, c1, c2, c3, c4, c5⟩ := HM2.out.cells
  rw [hvo] at c4
  rw [hvw] at c5
  clear hvo hvw
  go_upto_region 26 with (
    at_builtin; refine Kd.R_append kS (w0 := w2) (W := w2) 0 rfl (.tmp 106) (.tmp 108) 60 30 (.slice none 0 0) 24 rfl Try.underlying60 info30 rfl (by decide) (by decide) (.slice Ao s2.ss.length co) s2.ss ⟨A1, os.length, cp1⟩ [.slice A1 os.length cp1] (fun x => upd own2 w2 5 x = 5) (fun _ => False) rfl rfl rfl (fun _ hk => hk.elim) (fun k hk => upd_new hk) HO2.out (Below.refl _ _) (Nat.zero_le _) (by rw [HE.out.1]; exact HSS.out.1) ?_
    intro v1 w3 hR3 hb3 hg3 hat3
    obtain ⟨A3, cp3, rfl⟩ := Kd.R_slice hR3
    rw [← HVO.out] at hg3
    have hne := Kd.R_ne HM2.out.2.2.2.2.2.1 HM2.out.2.2.1.1 (by decide)
    have hc3 := (hg3.block gw (Array.getElem?_eq_some_iff.1 HM2.out.2.2.1.1).1 hne).trans HM2.out.2.2.1.1
    have y0 : w3.cell? ⟨gw, 4, none⟩ = some s2.vo := by rw [blk_cell hc3 4]; rfl
    have f0 := blk_frozen hc3 4
    have HF3 := Aside0.mk (show Frm w2 (w3.setCell ⟨gw, 4, none⟩ (.slice A3 (s2.ss.length + 1) cp3)) (fun x => own2 x = 5 ∨ own2 x = 7) from push_frm HM2.out.2.2.2.2.2.1 hg3 HM2.out.2.2.1.2)
    have HM4 := Aside0.mk (HM2.out.pushO hR3 hg3)
    rw [HVO.out] at y0
    clear hR3 hb3 hg3 hat3 hne hc3)
  have hm4 := HM4.out
  rw [List.length_append, List.length_cons, List.length_nil, Nat.zero_add] at hm4
  obtain ⟨w4, hw4⟩ : ∃ w4, w4 = w3.setCell ⟨gw, 4, none⟩ (.slice A3 (s2.ss.length + 1) cp3) := ⟨_, rfl⟩
  rw [← hw4] at HF3 hm4 ⊢
  obtain ⟨own4, hown4⟩ : ∃ own4, own4 = upd own2 w2 5 := ⟨_, rfl⟩
  rw [← hown4] at hm4
  have HM4b := Aside0.mk hm4
  have HX4 := Aside0.mk (R_frm (own' := own4) (I := fun i => i = 5 ∨ i = 7) HX2.out HF3.out (by omega) (fun x hx => by rw [hown4]; exact upd_old hx))
  have HY4 := Aside0.mk (R_frm (own' := own4) (I := fun i => i = 5 ∨ i = 7) HY2.out HF3.out (by omega) (fun x hx => by rw [hown4]; exact upd_old hx))
  have HVW4 := Aside0.mk (show s2.vw = .slice Aw s2.ws.length cw from HVW.out)
  have HO4 := Aside0.mk (show Kd.R kS 30 w4 0 (fun x => upd own4 w4 6 x = 6) (.slice Aw s2.ws.length cw) s2.ws by
    rw [← HVW.out]; exact Kd.R_mono (Kd.R_bound hm4.2.2.2.2.2.2.1) (fun k hk => (upd_old hk.2.2.1).trans hk.1))
  obtain ⟨c0, c1, c2, c3, c4, c5⟩ := hm4.cells
  dsimp only at c0 c1 c2 c3 c4 c5
  rw [HVW.out] at c5
  clear hw4 hown4 hm4 y0 f0
  go_upto_region 27 with (
    at_builtin; refine Kd.R_append kS (w0 := w4) (W := w4) 0 rfl (.tmp 116) (.tmp 118) 60 30 (.slice none 0 0) 24 rfl Try.underlying60 info30 rfl (by decide) (by decide) (.slice Aw s2.ws.length cw) s2.ws ⟨A2, os.length, cp2⟩ [.slice A2 os.length cp2] (fun x => upd own4 w4 6 x = 6) (fun _ => False) rfl rfl rfl (fun _ hk => hk.elim) (fun k hk => upd_new hk) HO4.out (Below.refl _ _) (Nat.zero_le _) (by rw [HE.out.2.1]; exact HSS.out.2) ?_
    intro v1 w5 hR3 hb3 hg3 hat3
    obtain ⟨A5, cp5, rfl⟩ := Kd.R_slice hR3
    rw [← HVW.out] at hg3
    have hne := Kd.R_ne HM4b.out.2.2.2.2.2.2.1 HM4b.out.2.2.1.1 (by decide)
    have hc3 := (hg3.block gw (Array.getElem?_eq_some_iff.1 HM4b.out.2.2.1.1).1 hne).trans HM4b.out.2.2.1.1
    have y0 : w5.cell? ⟨gw, 5, none⟩ = some s2.vw := by rw [blk_cell hc3 5]; rfl
    have f0 := blk_frozen hc3 5
    have HF5 := Aside0.mk (show Frm w4 (w5.setCell ⟨gw, 5, none⟩ (.slice A5 (s2.ws.length + 1) cp5)) (fun x => own4 x = 6 ∨ own4 x = 7) from push_frm HM4b.out.2.2.2.2.2.2.1 hg3 HM4b.out.2.2.1.2)
    have HM6 := Aside0.mk (HM4b.out.pushW hR3 hg3)
    rw [HVW.out] at y0
    clear hR3 hb3 hg3 hat3 hne hc3)
  have hm6 := HM6.out
  rw [List.length_append, List.length_cons, List.length_nil, Nat.zero_add] at hm6
  obtain ⟨w6, hw6⟩ : ∃ w6, w6 = w5.setCell ⟨gw, 5, none⟩ (.slice A5 (s2.ws.length + 1) cp5) := ⟨_, rfl⟩
  rw [← hw6] at HF5 hm6 ⊢
  have HX6 := Aside0.mk (R_frm (own' := upd own4 w4 6) (I := fun i => i = 6 ∨ i = 7) HX4.out HF5.out (by omega) (fun x hx => upd_old hx))
  have HY6 := Aside0.mk (R_frm (own' := upd own4 w4 6) (I := fun i => i = 6 ∨ i = 7) HY4.out HF5.out (by omega) (fun x hx => upd_old hx))
  have hx6 := HX6.out
  have hy6 := HY6.out
  rw [← HE.out.2.2] at hx6 hy6
  have HP := Aside0.mk (hm6.pushX (ss0 := s2.ss) (ws0 := s2.ws) rfl rfl (by show s2.ss.length = s2.xss.length; rw [HE.out.1, HE.out.2.2]; exact HXL.out.1) (by show s2.ws.length = s2.xss.length; rw [HE.out.2.1, HE.out.2.2]; exact HXL.out.2) hx6 hy6)
  clear hw6 hm6 hx6 hy6 y0 f0 c0 c1 c2 c3 c4 c5
  go_wp2_with fail
  refine (same_refl (Kd.R_reads' HX6.out).2.2 (Kd.R_reads' HX6.out).2.1 (Kd.R_reads' HY6.out).2.2 (Kd.R_reads' HY6.out).2.1).mono ?_
  rintro e w7 ⟨rfl, hb⟩
  have HP7 := Aside0.mk (HP.out.below hb 8)
  have HRL := Aside0.mk (HR.out.push (k := 0) (vo := .slice A3 (s2.ss.length + 1) cp3) (vw := .slice A5 (s2.ws.length + 1) cp5) (l := ⟨A1, os.length, cp1⟩) (l2 := ⟨A2, os.length, cp2⟩) hk2 (HRK.out.1.tick HRK.out.2.1) (goodT_tick HRK.out.2.2.1) (Nat.le_trans (tickS_len _ _) HRK.out.2.2.2.1) HOL.out)
  clear hb
  go_wp2_with fail
  go_ret
  refine ⟨by first | rfl | simp, _, _, HP7.out, ?_⟩
  rw [HS2.out]
  have hh := HRL.out
  exact hh
set_option maxRecDepth 100000 in
set_option maxHeartbeats 16000000 in
theorem step_tick1 (h : Mem w gw own s wi) (hr : Rel N s) (hN : N < 2199023255552) (o : OpV) (hkind : o.kind = 6) (htwo : o.two = true) :
    Calls Try.prog 25 #[.pointer (some ⟨gw, 0, none⟩), .agg #[.int .i64 6, .bool true, .int .i64 o.k.f0, .int .i64 o.k.f1.f0, .int .i64 o.k.f1.f1, .int .i64 o.k.f2, .int .i64 o.k.f3, .int .i64 o.n]] wi fun e w' => StepPost w gw N e w' := by
  have hk2 : 1 < 2 := by decide
  have HM := Aside0.mk (MB.start h o)
  have HR := Aside0.mk hr
  have hlen := Aside0.mk (hr.len h hk2)
  have HRK := Aside0.mk (hr.2.1 1 hk2)
  have HLX := Aside0.mk (show ∀ x ∈ s.L 1, 1 ≤ x.f1 ∧ x.f1 ≤ 1048576 from fun x hx => (HRK.out.2.2.1 (x.f0, x.f1) ((HRK.out.1.1 _ _).2 hx)).2)
  have HSS := Aside0.mk (show (s.ss.length + 1) * 24 ≤ 140737488355328 ∧ (s.ws.length + 1) * 24 ≤ 140737488355328 by
    have h1 := hr.1
    have h2 := hr.2.2.1
    omega)
  have HXL := Aside0.mk hr.1
  obtain ⟨os, hos⟩ : ∃ os, os = outS (s.He 1) (s.L 1) := ⟨_, rfl⟩
  have HOS := Aside0.mk hos.symm
  have HOL := Aside0.mk (show os.length ≤ N by rw [hos]; exact Nat.le_trans (outS_len _ _) HRK.out.2.2.2.1)
  clear hos
  obtain ⟨c0, c1, c2, c3, c4, c5⟩ := HM.out.1.cells
  obtain ⟨b0, b1, b2, b3, b4, b5, b6, b7⟩ := box66 HM.out.2.2
  rw [hkind, htwo] at c0 c1 c2 c3 c4 c5 b0 b1 b2 b3 b4 b5 b6 b7
  clear h hr
  go_enter Try.func25, Try.ntmps25
  go_wp2_with fail
  obtain ⟨W0, hW0⟩ : ∃ W0, W0 = wi.alloc (.cells #[.int .i64 o.kind, .bool o.two, .int .i64 o.k.f0, .int .i64 o.k.f1.f0, .int .i64 o.k.f1.f1, .int .i64 o.k.f2, .int .i64 o.k.f3, .int .i64 o.n] 66) := ⟨_, rfl⟩
  rw [← hW0] at HM
  rw [hkind, htwo] at hW0
  rw [← hW0]
  clear hW0 c0 c1 c2 c3 c4 c5 b0 b1 b2 b3 b4 b5 b6 b7
  obtain ⟨own0, hown0⟩ : ∃ own0, own0 = upd own wi 8 := ⟨_, rfl⟩
  rw [← hown0] at HM
  clear hown0
  have HMR := Aside0.mk ((HRK.out.1.out (HM.out.ct hk2).1.nodup HRK.out.2.1).trans HOS.out)
  refine (tick_big (HM.out.ct hk2).1 HRK.out.2.2.1 (by rw [hlen.out]; exact Nat.le_trans HRK.out.2.2.2.1 (Nat.le_of_lt hN))).mono ?_
  rintro e w1 ⟨x1, rfl, hR, hT, hg⟩
  rw [HMR.out] at hR
  obtain ⟨A1, cp1, rfl, hle1, _⟩ := Kd.R_reads hR
  have HM1 := Aside0.mk (HM.out.timers hk2 hT hg (HM.out.ct hk2).2.2.1 (10 + 2 * s.xss.length))
  have HX1 := Aside0.mk (R36_own (ok' := fun x => upd own0 W0 (10 + 2 * s.xss.length) x = 10 + 2 * s.xss.length) hR (fun k _ hk => upd_new (by omega)))
  have HLE1 := Aside0.mk hle1
  obtain ⟨own1, hown1⟩ : ∃ own1, own1 = upd own0 W0 (10 + 2 * s.xss.length) := ⟨_, rfl⟩
  rw [← hown1] at HM1 HX1
  clear hown1
  obtain ⟨c0, c1, c2, c3, c4, c5⟩ := HM1.out.1.cells
  clear hT hg hR hle1
  go_wp2_with fail
  have hcf := HM1.out.cf hk2
  dsimp only at hcf
  refine (reftick_any hcf (Nat.le_trans HRK.out.2.2.2.1 (Nat.le_of_lt hN)) (Nat.le_trans HRK.out.2.2.2.2.2 (Nat.le_of_lt hN)) HLX.out).mono ?_
  rintro e w2 ⟨A2, cp2, rfl, hY, hF, hfr⟩
  rw [HOS.out] at hY ⊢
  obtain ⟨own2, hown2⟩ : ∃ own2, own2 = upd2 own1 w1 (.slice A2 os.length cp2) (11 + 2 * s.xss.length) (3 + 1) := ⟨_, rfl⟩
  have ho2 : ∀ x, x < w1.heap.size → own2 x = own1 x := fun x hx => by rw [hown2]; exact upd2_old hx
  have hF2 := (F_row hF hY).mono (F2 := fun x => own2 x = 3 + 1) (fun x _ hx => by
    rw [hown2]
    unfold upd2
    by_cases hlt : x < w1.heap.size
    · rw [if_pos hlt]; exact hx.1.elim id (fun h => by omega)
    · rw [if_neg hlt, if_neg hx.2])
  have HM2 : Aside0 (Mem w gw own2 { s with T := setAt s.T 1 (tickT (s.Hd 1) (s.T 1)), Hd := setAt s.Hd 1 (s.Hd 1), L := setAt s.L 1 (tickS (s.He 1) (s.L 1)), He := setAt s.He 1 (s.He 1) } w2) := Aside0.mk (HM1.out.1.ref hk2 hF2 hfr ho2)
  have HX2 := Aside0.mk (show Kd.R k36 36 w2 0 (fun x => own2 x = 10 + 2 * s.xss.length) (encS ⟨A1, os.length, cp1⟩) os from R_frm (I := fun i => i = 3 + 1) HX1.out hfr (by omega) ho2)
  have HY2 := Aside0.mk (show Kd.R k36 36 w2 0 (fun x => own2 x = 11 + 2 * s.xss.length) (encS ⟨A2, os.length, cp2⟩) os from R36_own hY (fun k hk hk' => by
    rw [hown2]; unfold upd2; rw [if_neg (by omega), if_pos (show some k = (Value.slice A2 os.length cp2).ownBlock from hk.symm)]))
  have HLE2 := Aside0.mk (Kd.R_reads' hY).2.1
  obtain ⟨s2, hs2⟩ : ∃ s2 : WS, s2 = { s with T := setAt s.T 1 (tickT (s.Hd 1) (s.T 1)), Hd := setAt s.Hd 1 (s.Hd 1), L := setAt s.L 1 (tickS (s.He 1) (s.L 1)), He := setAt s.He 1 (s.He 1) } := ⟨_, rfl⟩
  rw [← hs2] at HM2
  have HS2 := Aside0.mk hs2
  have HE := Aside0.mk (show s2.ss = s.ss ∧ s2.ws = s.ws ∧ s2.xss = s.xss by rw [hs2]; exact ⟨rfl, rfl, rfl⟩)
  clear hown2 hs2 ho2 hF hY hfr hF2 hcf c0 c1 c2 c3 c4 c5
  obtain ⟨Ao, co, hvo, _⟩ := Kd.R_reads HM2.out.2.2.2.2.2.1
  obtain ⟨Aw, cw, hvw, _⟩ := Kd.R_reads HM2.out.2.2.2.2.2.2.1
  have HVO := Aside0.mk hvo
  have HVW := Aside0.mk hvw
  have HO2 := Aside0.mk (show Kd.R kS 30 w2 0 (fun x => upd own2 w2 5 x = 5) (.slice Ao s2.ss.length co) s2.ss by
    rw [← hvo]; exact Kd.R_mono (Kd.R_bound HM2.out.2.2.2.2.2.1) (fun k hk => (upd_old hk.2.2.1).trans hk.1))
  obtain ⟨c0, c1, c2, c3, c4, c5⟩ := HM2.out.cells
  rw [hvo] at c4
  rw [hvw] at c5
  clear hvo hvw
  go_upto_region 26 with (
    at_builtin; refine Kd.R_append kS (w0 := w2) (W := w2) 0 rfl (.tmp 106) (.tmp 108) 60 30 (.slice none 0 0) 24 rfl Try.underlying60 info30 rfl (by decide) (by decide) (.slice Ao s2.ss.length co) s2.ss ⟨A1, os.length, cp1⟩ [.slice A1 os.length cp1] (fun x => upd own2 w2 5 x = 5) (fun _ => False) rfl rfl rfl (fun _ hk => hk.elim) (fun k hk => upd_new hk) HO2.out (Below.refl _ _) (Nat.zero_le _) (by rw [HE.out.1]; exact HSS.out.1) ?_
    intro v1 w3 hR3 hb3 hg3 hat3
    obtain ⟨A3, cp3, rfl⟩ := Kd.R_slice hR3
    rw [← HVO.out] at hg3
    have hne := Kd.R_ne HM2.out.2.2.2.2.2.1 HM2.out.2.2.1.1 (by decide)
    have hc3 := (hg3.block gw (Array.getElem?_eq_some_iff.1 HM2.out.2.2.1.1).1 hne).trans HM2.out.2.2.1.1
    have y0 : w3.cell? ⟨gw, 4, none⟩ = some s2.vo := by rw [blk_cell hc3 4]; rfl
    have f0 := blk_frozen hc3 4
    have HF3 := Aside0.mk (show Frm w2 (w3.setCell ⟨gw, 4, none⟩ (.slice A3 (s2.ss.length + 1) cp3)) (fun x => own2 x = 5 ∨ own2 x = 7) from push_frm HM2.out.2.2.2.2.2.1 hg3 HM2.out.2.2.1.2)
    have HM4 := Aside0.mk (HM2.out.pushO hR3 hg3)
    rw [HVO.out] at y0
    clear hR3 hb3 hg3 hat3 hne hc3)
  have hm4 := HM4.out
  rw [List.length_append, List.length_cons, List.length_nil, Nat.zero_add] at hm4
  obtain ⟨w4, hw4⟩ : ∃ w4, w4 = w3.setCell ⟨gw, 4, none⟩ (.slice A3 (s2.ss.length + 1) cp3) := ⟨_, rfl⟩
  rw [← hw4] at HF3 hm4 ⊢
  obtain ⟨own4, hown4⟩ : ∃ own4, own4 = upd own2 w2 5 := ⟨_, rfl⟩
  rw [← hown4] at hm4
  have HM4b := Aside0.mk hm4
  have HX4 := Aside0.mk (R_frm (own' := own4) (I := fun i => i = 5 ∨ i = 7) HX2.out HF3.out (by omega) (fun x hx => by rw [hown4]; exact upd_old hx))
  have HY4 := Aside0.mk (R_frm (own' := own4) (I := fun i => i = 5 ∨ i = 7) HY2.out HF3.out (by omega) (fun x hx => by rw [hown4]; exact upd_old hx))
  have HVW4 := Aside0.mk (show s2.vw = .slice Aw s2.ws.length cw from HVW.out)
  have HO4 := Aside0.mk (show Kd.R kS 30 w4 0 (fun x => upd own4 w4 6 x = 6) (.slice Aw s2.ws.length cw) s2.ws by
    rw [← HVW.out]; exact Kd.R_mono (Kd.R_bound hm4.2.2.2.2.2.2.1) (fun k hk => (upd_old hk.2.2.1).trans hk.1))
  obtain ⟨c0, c1, c2, c3, c4, c5⟩ := hm4.cells
  dsimp only at c0 c1 c2 c3 c4 c5
  rw [HVW.out] at c5
  clear hw4 hown4 hm4 y0 f0
  go_upto_region 27 with (
    at_builtin; refine Kd.R_append kS (w0 := w4) (W := w4) 0 rfl (.tmp 116) (.tmp 118) 60 30 (.slice none 0 0) 24 rfl Try.underlying60 info30 rfl (by decide) (by decide) (.slice Aw s2.ws.length cw) s2.ws ⟨A2, os.length, cp2⟩ [.slice A2 os.length cp2] (fun x => upd own4 w4 6 x = 6) (fun _ => False) rfl rfl rfl (fun _ hk => hk.elim) (fun k hk => upd_new hk) HO4.out (Below.refl _ _) (Nat.zero_le _) (by rw [HE.out.2.1]; exact HSS.out.2) ?_
    intro v1 w5 hR3 hb3 hg3 hat3
    obtain ⟨A5, cp5, rfl⟩ := Kd.R_slice hR3
    rw [← HVW.out] at hg3
    have hne := Kd.R_ne HM4b.out.2.2.2.2.2.2.1 HM4b.out.2.2.1.1 (by decide)
    have hc3 := (hg3.block gw (Array.getElem?_eq_some_iff.1 HM4b.out.2.2.1.1).1 hne).trans HM4b.out.2.2.1.1
    have y0 : w5.cell? ⟨gw, 5, none⟩ = some s2.vw := by rw [blk_cell hc3 5]; rfl
    have f0 := blk_frozen hc3 5
    have HF5 := Aside0.mk (show Frm w4 (w5.setCell ⟨gw, 5, none⟩ (.slice A5 (s2.ws.length + 1) cp5)) (fun x => own4 x = 6 ∨ own4 x = 7) from push_frm HM4b.out.2.2.2.2.2.2.1 hg3 HM4b.out.2.2.1.2)
    have HM6 := Aside0.mk (HM4b.out.pushW hR3 hg3)
    rw [HVW.out] at y0
    clear hR3 hb3 hg3 hat3 hne hc3)
  have hm6 := HM6.out
  rw [List.length_append, List.length_cons, List.length_nil, Nat.zero_add] at hm6
  obtain ⟨w6, hw6⟩ : ∃ w6, w6 = w5.setCell ⟨gw, 5, none⟩ (.slice A5 (s2.ws.length + 1) cp5) := ⟨_, rfl⟩
  rw [← hw6] at HF5 hm6 ⊢
  have HX6 := Aside0.mk (R_frm (own' := upd own4 w4 6) (I := fun i => i = 6 ∨ i = 7) HX4.out HF5.out (by omega) (fun x hx => upd_old hx))
  have HY6 := Aside0.mk (R_frm (own' := upd own4 w4 6) (I := fun i => i = 6 ∨ i = 7) HY4.out HF5.out (by omega) (fun x hx => upd_old hx))
  have hx6 := HX6.out
  have hy6 := HY6.out
  rw [← HE.out.2.2] at hx6 hy6
  have HP := Aside0.mk (hm6.pushX (ss0 := s2.ss) (ws0 := s2.ws) rfl rfl (by show s2.ss.length = s2.xss.length; rw [HE.out.1, HE.out.2.2]; exact HXL.out.1) (by show s2.ws.length = s2.xss.length; rw [HE.out.2.1, HE.out.2.2]; exact HXL.out.2) hx6 hy6)
  clear hw6 hm6 hx6 hy6 y0 f0 c0 c1 c2 c3 c4 c5
  go_wp2_with fail
  refine (same_refl (Kd.R_reads' HX6.out).2.2 (Kd.R_reads' HX6.out).2.1 (Kd.R_reads' HY6.out).2.2 (Kd.R_reads' HY6.out).2.1).mono ?_
  rintro e w7 ⟨rfl, hb⟩
  have HP7 := Aside0.mk (HP.out.below hb 8)
  have HRL := Aside0.mk (HR.out.push (k := 1) (vo := .slice A3 (s2.ss.length + 1) cp3) (vw := .slice A5 (s2.ws.length + 1) cp5) (l := ⟨A1, os.length, cp1⟩) (l2 := ⟨A2, os.length, cp2⟩) hk2 (HRK.out.1.tick HRK.out.2.1) (goodT_tick HRK.out.2.2.1) (Nat.le_trans (tickS_len _ _) HRK.out.2.2.2.1) HOL.out)
  clear hb
  go_wp2_with fail
  go_ret
  refine ⟨by first | rfl | simp, _, _, HP7.out, ?_⟩
  rw [HS2.out]
  have hh := HRL.out
  exact hh
end Go.Proofs.Ytkndjjceijfdgaa.PAll

namespace Go.Proofs.Ytkndjjceijfdgaa.PAll
open Go.RowKit Go.Proofs.YtkndjjceijfdgaaW.PrintWords Go.Proofs.YtkndjjceijfdgaaW.PrintLast Go.Proofs.YtkndjjceijfdgaaW.PrintMore Go.Proofs.YtkndjjceijfdgaaM
set_option linter.unusedVariables false
set_option linter.unusedSimpArgs false
variable {w wi wj : World} {gw id N : Nat} {own own' : Nat → Nat} {s : WS}
theorem step_any (h : Mem w gw own s wi) (hr : Rel N s) (hN : N < 2199023255552) (o : OpV) (ho : OkOp o) :
    Calls Try.prog 25 #[.pointer (some ⟨gw, 0, none⟩), .agg #[.int .i64 o.kind, .bool o.two, .int .i64 o.k.f0, .int .i64 o.k.f1.f0, .int .i64 o.k.f1.f1, .int .i64 o.k.f2, .int .i64 o.k.f3, .int .i64 o.n]] wi fun e w' => StepPost w gw N e w' := by
  by_cases h1 : o.kind = 1
  · rw [h1]; exact step_start h hr hN o ho o.two _ rfl h1 rfl
  by_cases h2 : o.kind = 2
  · rw [h2]; exact step_stop h hr hN o ho o.two _ rfl h2 rfl
  by_cases h3 : o.kind = 3
  · rw [h3]; exact step_drop h hr hN o ho o.two _ rfl h3 rfl
  by_cases h4 : o.kind = 4
  · rw [h4]; exact step_hold h hr hN o ho o.two _ rfl h4 rfl
  by_cases h5 : o.kind = 5
  · rw [h5]; exact step_go h hr hN o ho o.two _ rfl h5 rfl
  by_cases h6 : o.kind = 6
  · rw [h6]
    cases ht : o.two with
    | false => exact step_tick0 h hr hN o h6 ht
    | true => exact step_tick1 h hr hN o h6 ht
  by_cases h7 : o.kind = 7
  · rw [h7]
    by_cases hin : o.k ∈ keysT (s.T (if o.two then 1 else 0))
    · exact step_left_yes h hr hN o ho o.two _ rfl h7 hin rfl
    · exact step_left_no h hr hN o ho o.two _ rfl h7 hin rfl
  by_cases h8 : o.kind = 8
  · rw [h8]; exact step_count h hr hN o ho o.two _ rfl h8 rfl
  exact step_none h hr hN o ho o.two _ rfl o.kind rfl (by omega) rfl
set_option maxRecDepth 100000 in
set_option maxHeartbeats 8000000 in
theorem all_any (h : Mem w gw own s wi) (hr : Rel N s) (hN : N ≤ 2199023255552) (k : Nat) (hk : k = 0 ∨ k = 1) :
    Calls Try.prog 26 #[.pointer (some ⟨gw, 0, none⟩), .int .i64 k] wi fun e w' => e = .returned (.bool true) ∧ Below wi.heap.size wi w' := by
  have hk2 : k < 2 := by omega
  obtain ⟨c0, c1, c2, c3, _, _⟩ := h.cells
  have cb : wi.cell? ⟨gw, k, none⟩ = some (.pointer (some ⟨s.b k, 0, none⟩)) := by rcases hk with rfl | rfl <;> assumption
  have cg : wi.cell? ⟨gw, 2 + k, none⟩ = some (.pointer (some ⟨s.g k, 0, none⟩)) := by rcases hk with rfl | rfl <;> assumption
  have hlen0 := hr.len h hk2
  have hrk := hr.2.1 k hk2
  have hct := h.2.2.2.1 k hk2
  have hcf := h.2.2.2.2.1 k hk2
  clear h hr c0 c1 c2 c3
  generalize s.T k = T at *
  generalize s.L k = L at *
  generalize s.Hd k = Hd at *
  generalize s.He k = He at *
  generalize s.b k = bt at *
  generalize s.bl k = btl at *
  generalize s.bh k = bth at *
  generalize s.g k = gr at *
  have HMR := Aside0.mk hrk.1
  have HGD := Aside0.mk hrk.2.2.1
  have hkl : L.length ≤ 2199023255552 := Nat.le_trans hrk.2.2.2.1 hN
  have HT := Aside0.mk hct.1
  have HF := Aside0.mk hcf
  have HLN := Aside0.mk hlen0
  obtain ⟨Al, cl, Ah, ch, h1, h2, h3, h4⟩ := hcf.open
  have H1 := Aside0.mk h1
  have H3 := Aside0.mk h3
  have g0 : wi.cell? ⟨gr, 0, none⟩ = some (.slice Al L.length cl) := by rw [blk_cell h1 0]; rfl
  clear h1 h2 h3 h4 hrk hct hcf hlen0
  rcases hk with rfl | rfl
  · go_enter Try.func26, Try.ntmps26
    go_wp2_with fail
    refine (count_any HT.out).mono ?_
    rintro e w1 ⟨rfl, rfl⟩
    rw [HLN.out]
    go_wp2_with fail
    refine (rcount_any HF.out).mono ?_
    rintro e w1 ⟨rfl, rfl⟩
    obtain ⟨wo, rfl⟩ : ∃ wo : World, wo = w1 := ⟨_, rfl⟩
    have HCB := Aside0.mk cb
    have HCG := Aside0.mk cg
    have HG0 := Aside0.mk g0
    go_wp2_with fail
    go_loopw [6] (fun iv wr => ∃ j : Nat, j ≤ L.length ∧ iv = .int .i64 j ∧ Aside0 (Below wo.heap.size wo wr)) (fun iv _ => L.length - (intOf iv).toNat)
    case atStart => exact ⟨0, Nat.zero_le _, rfl, ⟨Below.refl _ _⟩⟩
    case round =>
      clear cb cg g0
      obtain ⟨j, hj, rfl, HB⟩ := hrel
      have cb := keep_cell HB.out HCB.out
      have cg := keep_cell HB.out HCG.out
      have g0 := keep_cell HB.out HG0.out
      by_cases hlt : j < L.length
      · obtain ⟨ad, ea, p0, p1, p2, p3, p4, p5⟩ := x_cells (Kd.C_below (Kd.R_reads' H3.out).2.2 HB.out) hlt
        subst ea
        have HXM := Aside0.mk (xAt_mem hlt)
        obtain ⟨x, hx⟩ : ∃ x, x = xAt L j := ⟨_, rfl⟩
        rw [← hx] at p0 p1 p2 p3 p4 p5 HXM
        clear hx
        have HIN := Aside0.mk (show (x.f0, x.f1) ∈ T from (HMR.out.1 _ _).2 HXM.out)
        have HWK := Aside0.mk (HGD.out _ HIN.out).1
        have HNW := Aside0.mk (heap_alloc_new wr (.cells #[.int .i64 x.f0.f0, .int .i64 x.f0.f1.f0, .int .i64 x.f0.f1.f1, .int .i64 x.f0.f2, .int .i64 x.f0.f3, .int .i64 x.f1] 85))
        have HBW := Aside0.mk (below_alloc (Below.refl wr.heap.size wr) (.cells #[.int .i64 x.f0.f0, .int .i64 x.f0.f1.f0, .int .i64 x.f0.f1.f1, .int .i64 x.f0.f2, .int .i64 x.f0.f3, .int .i64 x.f1] 85))
        obtain ⟨V, hV⟩ : ∃ V, V = wr.alloc (.cells #[.int .i64 x.f0.f0, .int .i64 x.f0.f1.f0, .int .i64 x.f0.f1.f1, .int .i64 x.f0.f2, .int .i64 x.f0.f3, .int .i64 x.f1] 85) := ⟨_, rfl⟩
        go_upto_region 8 with (fail)
        rw [← hV] at HNW HBW ⊢
        clear hV p0 p1 p2 p3 p4 p5
        have cb := keep_cell HBW.out cb
        have cg := keep_cell HBW.out cg
        have g0 := keep_cell HBW.out g0
        obtain ⟨b0, b1, b2, b3, b4, b5⟩ := box85 HNW.out
        have HBV := Aside0.mk (HB.out.trans (HBW.out.mono HB.out.size))
        have HTV := Aside0.mk (HT.out.below HBV.out)
        go_region_held3 (fun w' => w'.cell? ⟨gw, 0, none⟩ = some (.pointer (some ⟨bt, 0, none⟩)) ∧ w'.cell? ⟨wr.heap.size, 0, none⟩ = some (.int .i64 x.f0.f0) ∧ w'.cell? ⟨wr.heap.size, 1, none⟩ = some (.int .i64 x.f0.f1.f0) ∧ w'.cell? ⟨wr.heap.size, 2, none⟩ = some (.int .i64 x.f0.f1.f1) ∧ w'.cell? ⟨wr.heap.size, 3, none⟩ = some (.int .i64 x.f0.f2) ∧ w'.cell? ⟨wr.heap.size, 4, none⟩ = some (.int .i64 x.f0.f3))
          (first
            | go_keep
            | (go_split_ands
               refine ⟨?_, ?_, ?_, ?_, ?_, ?_⟩ <;> exact keep_cell hb (by assumption)))
          (first | (go_at_call 20; refine (left_yes (k := x.f0) (show TAt V.drew bt btl bth T Hd from HTV.out.same rfl rfl rfl) HWK.out HIN.out).mono ?_; rintro e w5 ⟨rfl, hb⟩))
        have HB5 := Aside0.mk (show Below wo.heap.size wo w5 from HBV.out.drew.trans (hb.mono HBV.out.drew.size))
        have b5' := keep_cell hb (show V.drew.cell? ⟨wr.heap.size, 5, none⟩ = _ from b5)
        clear hb cb cg g0 b0 b1 b2 b3 b4 b5
        go_wp2_with fail
        go_roundw
        case rel => exact ⟨j + 1, by omega, by go_num, HB5⟩
        case measure => simp [intOf]; omega
      · go_wp2_with fail
        go_ret
        exact ⟨rfl, HB.out⟩
  · go_enter Try.func26, Try.ntmps26
    go_wp2_with fail
    refine (count_any HT.out).mono ?_
    rintro e w1 ⟨rfl, rfl⟩
    rw [HLN.out]
    go_wp2_with fail
    refine (rcount_any HF.out).mono ?_
    rintro e w1 ⟨rfl, rfl⟩
    obtain ⟨wo, rfl⟩ : ∃ wo : World, wo = w1 := ⟨_, rfl⟩
    have HCB := Aside0.mk cb
    have HCG := Aside0.mk cg
    have HG0 := Aside0.mk g0
    go_wp2_with fail
    go_loopw [6] (fun iv wr => ∃ j : Nat, j ≤ L.length ∧ iv = .int .i64 j ∧ Aside0 (Below wo.heap.size wo wr)) (fun iv _ => L.length - (intOf iv).toNat)
    case atStart => exact ⟨0, Nat.zero_le _, rfl, ⟨Below.refl _ _⟩⟩
    case round =>
      clear cb cg g0
      obtain ⟨j, hj, rfl, HB⟩ := hrel
      have cb := keep_cell HB.out HCB.out
      have cg := keep_cell HB.out HCG.out
      have g0 := keep_cell HB.out HG0.out
      by_cases hlt : j < L.length
      · obtain ⟨ad, ea, p0, p1, p2, p3, p4, p5⟩ := x_cells (Kd.C_below (Kd.R_reads' H3.out).2.2 HB.out) hlt
        subst ea
        have HXM := Aside0.mk (xAt_mem hlt)
        obtain ⟨x, hx⟩ : ∃ x, x = xAt L j := ⟨_, rfl⟩
        rw [← hx] at p0 p1 p2 p3 p4 p5 HXM
        clear hx
        have HIN := Aside0.mk (show (x.f0, x.f1) ∈ T from (HMR.out.1 _ _).2 HXM.out)
        have HWK := Aside0.mk (HGD.out _ HIN.out).1
        have HNW := Aside0.mk (heap_alloc_new wr (.cells #[.int .i64 x.f0.f0, .int .i64 x.f0.f1.f0, .int .i64 x.f0.f1.f1, .int .i64 x.f0.f2, .int .i64 x.f0.f3, .int .i64 x.f1] 85))
        have HBW := Aside0.mk (below_alloc (Below.refl wr.heap.size wr) (.cells #[.int .i64 x.f0.f0, .int .i64 x.f0.f1.f0, .int .i64 x.f0.f1.f1, .int .i64 x.f0.f2, .int .i64 x.f0.f3, .int .i64 x.f1] 85))
        obtain ⟨V, hV⟩ : ∃ V, V = wr.alloc (.cells #[.int .i64 x.f0.f0, .int .i64 x.f0.f1.f0, .int .i64 x.f0.f1.f1, .int .i64 x.f0.f2, .int .i64 x.f0.f3, .int .i64 x.f1] 85) := ⟨_, rfl⟩
        go_upto_region 8 with (fail)
        rw [← hV] at HNW HBW ⊢
        clear hV p0 p1 p2 p3 p4 p5
        have cb := keep_cell HBW.out cb
        have cg := keep_cell HBW.out cg
        have g0 := keep_cell HBW.out g0
        obtain ⟨b0, b1, b2, b3, b4, b5⟩ := box85 HNW.out
        have HBV := Aside0.mk (HB.out.trans (HBW.out.mono HB.out.size))
        have HTV := Aside0.mk (HT.out.below HBV.out)
        go_region_held3 (fun w' => w'.cell? ⟨gw, 1, none⟩ = some (.pointer (some ⟨bt, 0, none⟩)) ∧ w'.cell? ⟨wr.heap.size, 0, none⟩ = some (.int .i64 x.f0.f0) ∧ w'.cell? ⟨wr.heap.size, 1, none⟩ = some (.int .i64 x.f0.f1.f0) ∧ w'.cell? ⟨wr.heap.size, 2, none⟩ = some (.int .i64 x.f0.f1.f1) ∧ w'.cell? ⟨wr.heap.size, 3, none⟩ = some (.int .i64 x.f0.f2) ∧ w'.cell? ⟨wr.heap.size, 4, none⟩ = some (.int .i64 x.f0.f3))
          (first
            | go_keep
            | (go_split_ands
               refine ⟨?_, ?_, ?_, ?_, ?_, ?_⟩ <;> exact keep_cell hb (by assumption)))
          (first | (go_at_call 20; refine (left_yes (k := x.f0) (show TAt V.drew bt btl bth T Hd from HTV.out.same rfl rfl rfl) HWK.out HIN.out).mono ?_; rintro e w5 ⟨rfl, hb⟩))
        have HB5 := Aside0.mk (show Below wo.heap.size wo w5 from HBV.out.drew.trans (hb.mono HBV.out.drew.size))
        have b5' := keep_cell hb (show V.drew.cell? ⟨wr.heap.size, 5, none⟩ = _ from b5)
        clear hb cb cg g0 b0 b1 b2 b3 b4 b5
        go_wp2_with fail
        go_roundw
        case rel => exact ⟨j + 1, by omega, by go_num, HB5⟩
        case measure => simp [intOf]; omega
      · go_wp2_with fail
        go_ret
        exact ⟨rfl, HB.out⟩
end Go.Proofs.Ytkndjjceijfdgaa.PAll

