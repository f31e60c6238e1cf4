/- The lists that came out, written over and grown: what each append and store leaves. A list that came out, grown: what is told of it, and of the list that it grew out of. Two lists put behind the others. The law's ends: the lists that came out are their owner's. The law TimersPlays: its walk. -/
import Derived.Test.YtkndjjceijfdgaaWorldAll
import Derived.Maps.AppendAt
namespace Go.Proofs.Ytkndjjceijfdgaa.PAll
open Go.RowKit Go.Proofs.YtkndjjceijfdgaaW.PrintWords Go.Proofs.YtkndjjceijfdgaaW.PrintLast Go.Proofs.YtkndjjceijfdgaaW.PrintMore Go.Proofs.YtkndjjceijfdgaaM
set_option linter.unusedVariables false
set_option linter.unusedSimpArgs false
variable {w wi wj : World} {gw id N : Nat} {own own' : Nat → Nat} {s : WS}
set_option maxRecDepth 100000 in
/-- append(v, p) of keys: in the array's room, or else nothing that was there has changed. -/
theorem append36_run {W : World} {v : Value} {xs : List S36} {ok : Nat → Prop} (p : S36) (ty : TypeId) (h : Kd.R k36 36 W 0 ok v xs) (hl : (xs.length + 1) * 40 ≤ 140737488355328) (hfresh : ∀ k, W.heap.size ≤ k → ok k) :
    ∃ v1 w1, (Builtin.append_ #[30, 30] ty #[v, .slice (some ⟨W.heap.size, 0, none⟩) 1 1]).run Try.prog (W.alloc (.cells #[.int .i64 p.f0, .int .i64 p.f1.f0, .int .i64 p.f1.f1, .int .i64 p.f2, .int .i64 p.f3] 36)) = .ok v1 w1 ∧ Kd.R k36 36 w1 0 ok v1 (xs ++ [p]) ∧ W.grownBy w1 v.ownBlock ∧
      ((∃ g cap, v = .slice (some ⟨g, 0, none⟩) xs.length cap ∧ v1 = .slice (some ⟨g, 0, none⟩) (xs.length + 1) cap) ∨ (Below W.heap.size W w1 ∧ ∀ b, v1.ownBlock = some b → W.heap.size ≤ b)) := by
  obtain ⟨h0, inner, ho, hr⟩ := h
  obtain ⟨i0, hi, hzz⟩ := Option.map_eq_some_iff.1 info36
  simp only [Prod.mk.injEq] at hzz
  obtain ⟨hz0, hz1, hz2⟩ := hzz
  have hws : (W.alloc (.cells #[.int .i64 p.f0, .int .i64 p.f1.f0, .int .i64 p.f1.f1, .int .i64 p.f2, .int .i64 p.f3] 36)).heap.size = W.heap.size + 1 := by simp
  have hnews : ∀ (j : Nat) u, (encK p)[j]? = some u → (W.alloc (.cells #[.int .i64 p.f0, .int .i64 p.f1.f0, .int .i64 p.f1.f1, .int .i64 p.f2, .int .i64 p.f3] 36)).cell? ((⟨W.heap.size, 0, none⟩ : Addr).add j) = some u := by
    have := World.news_of_block (cs := (encK p).toArray) (t := 36) (fr := (0, 0)) (heap_alloc_new W (.cells (encK p).toArray 36))
    exact this
  have hgr0 := World.grownBy_alloc W (.cells #[.int .i64 p.f0, .int .i64 p.f1.f0, .int .i64 p.f1.f1, .int .i64 p.f2, .int .i64 p.f3] 36) v.ownBlock
  obtain ⟨v1, w1, hrun, hown1, hg, _, hat⟩ := run_append_own_at (P := Try.prog) (W.alloc (.cells #[.int .i64 p.f0, .int .i64 p.f1.f0, .int .i64 p.f1.f1, .int .i64 p.f2, .int .i64 p.f3] 36)) 0 30 ty 36 i0 (.agg #[.int .i64 0, .int .i64 0, .int .i64 0, .int .i64 0, .int .i64 0]) 5 40 Try.underlying30 hi hz0 hz1 hz2 rfl (by decide) v xs.length inner (ho.alloc _) ⟨W.heap.size, 0, none⟩ 1 1 (encK p) rfl hnews (encK_one p) (by unfold maxLen; omega) hl (Nat.zero_le _)
  have hgw := hgr0.trans hg
  refine ⟨v1, w1, hrun, Kd.R_appended h0 hr (k36_mkM W 0 (fun _ => False) p) (fun _ hk => hk.elim) hfresh hown1 hgw (hat.imp id (fun e => ⟨_, e, by omega⟩)), hgw, ?_⟩
  rcases ho.2 with ⟨hv, _⟩ | ⟨g, cap, cur, hv, hb, hh, hnc, hcm, hcs, ht⟩
  · right
    subst hv
    refine ⟨⟨hgw.os, hgw.tape, hgw.output, hgw.size, fun k hk => hgw.block k hk (by simp [Value.ownBlock])⟩, fun b hb => ?_⟩
    rcases hat with hat | hat
    · rw [hat] at hb; cases hb
    · rw [hat] at hb; injection hb with hb; omega
  · by_cases hroom : xs.length + 1 ≤ cap
    · left
      subst hv
      refine ⟨g, cap, rfl, ?_⟩
      have hlt := (Array.getElem?_eq_some_iff.1 hh).1
      have hh' := ((below_alloc (Below.refl W.heap.size W) (.cells #[.int .i64 p.f0, .int .i64 p.f1.f0, .int .i64 p.f1.f1, .int .i64 p.f2, .int .i64 p.f3] 36)).block g hlt).trans hh
      have hroomrun := run_append_room (P := Try.prog) (W.alloc (.cells #[.int .i64 p.f0, .int .i64 p.f1.f0, .int .i64 p.f1.f1, .int .i64 p.f2, .int .i64 p.f3] 36)) 30 ty 36 i0 Try.underlying30 hi g xs.length cap cur hh' ⟨W.heap.size, 0, none⟩ 1 1 (encK p) (by rw [hz1]; rfl) hnews (encK_one p) hroom (by
        rw [hz1, hcs, encK_len]
        show xs.length * 5 + 5 ≤ cap * 5
        omega)
      rw [hroomrun] at hrun
      injection hrun with e _
      exact e.symm
    · right
      subst hv
      have holds : ∀ (j : Nat) u, inner[j]? = some u → (W.alloc (.cells #[.int .i64 p.f0, .int .i64 p.f1.f0, .int .i64 p.f1.f1, .int .i64 p.f2, .int .i64 p.f3] 36)).cell? ((⟨g, 0, none⟩ : Addr).add j) = some u := (ho.alloc _).cells (g := g) rfl
      have hgrow := run_append_grow (P := Try.prog) (W.alloc (.cells #[.int .i64 p.f0, .int .i64 p.f1.f0, .int .i64 p.f1.f1, .int .i64 p.f2, .int .i64 p.f3] 36)) 30 ty 36 i0 (.agg #[.int .i64 0, .int .i64 0, .int .i64 0, .int .i64 0, .int .i64 0]) Try.underlying30 hi hz0 ⟨g, 0, none⟩ xs.length cap inner (by rw [hz1]; exact ho.1) holds ⟨W.heap.size, 0, none⟩ 1 1 (encK p) (by rw [hz1]; rfl) hnews (by omega) (by omega) (by rw [hz2]; exact growslice_fits (by omega) hl)
      rw [hgrow] at hrun
      injection hrun with e1 e
      rw [← e]
      refine ⟨below_alloc (below_alloc (Below.refl _ _) _).drew _, fun b hb => ?_⟩
      rw [← e1] at hb
      simp only [Value.ownBlock] at hb
      injection hb with hb
      omega
section
variable {ops : Array Oper} {rest : List Oper} {o : Oper} {a : Act} {Q : Exit → Act → World → Prop}
theorem wpList_append36 {W : World} {xs : List S36} {ok : Nat → Prop} (hgd : o.guard = none) (S x : Operand) (ho : o.op = .call { callee := .builtin .append, args := #[S, x], argTypes := #[30, 30] }) (v : Value) (p : S36) (hs : a.eval S = v) (hx : a.eval x = .slice (some ⟨W.heap.size, 0, none⟩) 1 1)
    (h : Kd.R k36 36 W 0 ok v xs) (hl : (xs.length + 1) * 40 ≤ 140737488355328) (hfresh : ∀ k, W.heap.size ≤ k → ok k)
    (hk : ∀ v1 w1, Kd.R k36 36 w1 0 ok v1 (xs ++ [p]) → W.grownBy w1 v.ownBlock → ((∃ g cap, v = .slice (some ⟨g, 0, none⟩) xs.length cap ∧ v1 = .slice (some ⟨g, 0, none⟩) (xs.length + 1) cap) ∨ (Below W.heap.size W w1 ∧ ∀ b, v1.ownBlock = some b → W.heap.size ≤ b)) → wpList Try.prog ops Q rest (a.put o.dst v1) w1) :
    wpList Try.prog ops Q (o :: rest) a (W.alloc (.cells #[.int .i64 p.f0, .int .i64 p.f1.f0, .int .i64 p.f1.f1, .int .i64 p.f2, .int .i64 p.f3] 36)) := by
  obtain ⟨v1, w1, hr, h1, h2, h3⟩ := append36_run p o.type h hl hfresh
  refine wpList_plain hgd fun K hK => ?_
  unfold Oper.wp execOp
  simp only [ho, resolve, invoke, builtin, Sem.run_bind, Sem.run_pure, Result.andThen_ok, List.map_toArray, List.map_cons, List.map_nil, hs, hx, hr]
  exact hK _ _ (hk v1 w1 h1 h2 h3)
end
/-- The key that is written over the i-th list. -/
def badK (i : Nat) : S36 := ⟨-1 - (i : Int), ⟨0, 0⟩, 0, 0⟩
/-- The lists that came out: ss their headers, f what each reads. -/
def EM (w : World) (gw : Nat) (own : Nat → Nat) (vo : Value) (ss : List Sl) (f : Nat → List S36) (wi : World) : Prop :=
  Below w.heap.size w wi ∧ (∀ x, x < w.heap.size → own x = 0) ∧ (∃ cs, wi.heap[gw]? = some (.cells cs 62 (0, 0)) ∧ cs[4]? = some vo) ∧ own gw = 7 ∧ Kd.R kS 30 wi 0 (fun x => own x = 5) vo ss ∧ ∀ i, i < ss.length → Kd.R k36 36 wi 0 (fun x => own x = 10 + 2 * i) (encS (sAt ss i)) (f i)
theorem Mem.em (h : Mem w gw own s wi) (hl : s.ss.length = s.xss.length) : EM w gw own s.vo s.ss (rAt s.xss) wi :=
  ⟨h.1, h.2.1, ⟨_, h.2.2.1.1, rfl⟩, h.2.2.1.2, h.2.2.2.2.2.1, fun i hi => (h.2.2.2.2.2.2.2.2 i (by omega)).1⟩
variable {vo : Value} {ss : List Sl} {f f' : Nat → List S36}
theorem EM.congr (h : EM w gw own vo ss f wi) (hf : ∀ i, i < ss.length → f' i = f i) : EM w gw own vo ss f' wi :=
  ⟨h.1, h.2.1, h.2.2.1, h.2.2.2.1, h.2.2.2.2.1, fun i hi => by rw [hf i hi]; exact h.2.2.2.2.2 i hi⟩
theorem EM.cell (h : EM w gw own vo ss f wi) : wi.cell? ⟨gw, 4, none⟩ = some vo := by
  obtain ⟨cs, hc, h4⟩ := h.2.2.1
  rw [blk_cell hc 4]; exact h4
theorem EM.frm {I : Nat → Prop} (h : EM w gw own vo ss f wi) (hf : Frm wi wj (fun x => I (own x))) (h0 : ¬ I 0) (h5 : ¬ I 5) (h7 : ¬ I 7) (ho : ∀ x, x < wi.heap.size → own' x = own x)
    (hrow : ∀ i, i < ss.length → I (10 + 2 * i) → Kd.R k36 36 wj 0 (fun x => own' x = 10 + 2 * i) (encS (sAt ss i)) (f' i)) (hsame : ∀ i, i < ss.length → ¬ I (10 + 2 * i) → f' i = f i) : EM w gw own' vo ss f' wj := by
  obtain ⟨h1, h2, ⟨cs, h3, h3'⟩, h4, h5', h6⟩ := h
  have hgw := (Array.getElem?_eq_some_iff.1 h3).1
  have hsz := h1.size
  refine ⟨⟨hf.os.trans h1.os, hf.tape.trans h1.tape, hf.output.trans h1.output, Nat.le_trans h1.size hf.size, fun x hx => ?_⟩, fun x hx => ?_, ⟨cs, ?_, h3'⟩, (ho _ hgw).trans h4, R_frm h5' hf h5 ho, fun i hi => ?_⟩
  · exact (hf.block x (by omega) (fun e => h0 (h2 x hx ▸ e))).trans (h1.block x hx)
  · rw [ho x (by omega)]; exact h2 x hx
  · exact (hf.block gw hgw (fun e => h7 (h4 ▸ e))).trans h3
  · by_cases hI : I (10 + 2 * i)
    · exact hrow i hi hI
    · rw [hsame i hi hI]; exact R_frm (h6 i hi) hf hI ho
theorem EM.below (h : EM w gw own vo ss f wi) (hb : Below wi.heap.size wi wj) (id : Nat) : EM w gw (upd own wi id) vo ss f wj :=
  h.frm (I := fun i => i = 9) (Frm.of_below hb (fun x => own x = 9)) (by decide) (by decide) (by decide) (fun x hx => upd_old hx) (fun i _ hI => by omega) (fun i _ _ => rfl)
theorem kS_cell {A : Option Addr} {n : Nat} {xs : List Sl} {W : World} (h : kS.C W A n xs) {i : Nat} (hi : i < n) : ∃ ad, A = some ad ∧ W.cell? (ad.add i) = some (.slice (sAt xs i).a (sAt xs i).n (sAt xs i).c) := by
  obtain ⟨ad, e, hc⟩ := ReadsOf.at_ (Kd.reads_of_C (enc := encS) (d := zSl) (h1 := fun _ => rfl) h) (i : Int) (by omega) (by omega)
  rw [Int.toNat_natCast] at hc
  refine ⟨ad, e, ?_⟩
  rw [hc]; unfold rdOf sAt encS
  rw [Int.toNat_natCast]
theorem kAt_set {l : List S36} {k m : Nat} {q : S36} (hk : k < l.length) : kAt (l.set k q) m = if m = k then q else kAt l m := by
  unfold kAt
  rw [List.getD_eq_getElem?_getD, List.getElem?_set]
  by_cases h : k = m
  · subst h; rw [if_pos rfl, if_pos hk, if_pos rfl]; rfl
  · rw [if_neg h, if_neg (fun e => h e.symm), List.getD_eq_getElem?_getD]
theorem setCells5 (W : World) (b o : Nat) (v0 v1 v2 v3 v4 : Value) : W.setCells b o [v0, v1, v2, v3, v4] = ((((W.setCell ⟨b, o, none⟩ v0).setCell ⟨b, o + 1, none⟩ v1).setCell ⟨b, o + 2, none⟩ v2).setCell ⟨b, o + 3, none⟩ v3).setCell ⟨b, o + 4, none⟩ v4 := by
  simp [World.setCells]
/-- A key of the i-th list written over. -/
theorem EM.put {i b cap k : Nat} (h : EM w gw own vo ss f wi) (hi : i < ss.length) (e : encS (sAt ss i) = .slice (some ⟨b, 0, none⟩) (f i).length cap) (hk : k < (f i).length) (q : S36) :
    EM w gw own vo ss (fun j => if j = i then (f i).set k q else f j) (((((wi.setCell ⟨b, k * 5, none⟩ (.int .i64 q.f0)).setCell ⟨b, k * 5 + 1, none⟩ (.int .i64 q.f1.f0)).setCell ⟨b, k * 5 + 2, none⟩ (.int .i64 q.f1.f1)).setCell ⟨b, k * 5 + 3, none⟩ (.int .i64 q.f2)).setCell ⟨b, k * 5 + 4, none⟩ (.int .i64 q.f3)) := by
  have hR := h.2.2.2.2.2 i hi
  rw [e] at hR
  obtain ⟨c, hc, hM, hcc, hfz⟩ := Kd.R_elem hR z36 (k : Int) (by omega) (by omega)
  obtain rfl := k36_openM hM
  have hseg := Kd.R_seg (okp := fun x => own x = 10 + 2 * i ∧ x ≠ b) (seg := encK q) (j := 0) (x' := q) hR (k : Int) (by omega) (by omega) hc hcc (show 0 + 5 ≤ 5 by omega) (k36_mkM wi 0 (fun x => own x = 10 + 2 * i ∧ x ≠ b) q) (fun k hk => hk)
  rw [Int.toNat_natCast] at hseg
  have hs5 : k36.sz = 5 := rfl
  rw [hs5] at hseg
  have e5 := setCells5 wi b (k * 5) (.int .i64 q.f0) (.int .i64 q.f1.f0) (.int .i64 q.f1.f1) (.int .i64 q.f2) (.int .i64 q.f3)
  have hs2 : Kd.R k36 36 (wi.setCells b (k * 5) (encK q)) 0 (fun x => own x = 10 + 2 * i) (.slice (some ⟨b, 0, none⟩) (f i).length cap) ((f i).set k q) ∧ wi.grownBy (wi.setCells b (k * 5) (encK q)) (some b) := hseg
  unfold encK at hs2
  rw [e5] at hs2
  refine h.frm (I := fun x => x = 10 + 2 * i) (Frm.of_grown hs2.2 (F := fun x => own x = 10 + 2 * i) (hR.1 b rfl)) (by omega) (by omega) (by omega) (fun _ _ => rfl) (fun j hj hI => ?_) (fun j hj hI => ?_)
  · obtain rfl : j = i := by omega
    rw [e]
    simp only [if_true]
    exact hs2.1
  · have : ¬ j = i := fun e => hI (by rw [e])
    simp only [if_neg this]
end Go.Proofs.Ytkndjjceijfdgaa.PAll

namespace Go.Proofs.Ytkndjjceijfdgaa.PAll
open Go.RowKit Go.Proofs.YtkndjjceijfdgaaW.PrintWords Go.Proofs.YtkndjjceijfdgaaW.PrintLast Go.Proofs.YtkndjjceijfdgaaW.PrintMore Go.Proofs.YtkndjjceijfdgaaM
set_option linter.unusedVariables false
set_option linter.unusedSimpArgs false
variable {w wi wj : World} {gw id N i : Nat} {own own' : Nat → Nat} {vo lv gv : Value} {ss lls : List Sl} {f : Nat → List S36} {xs : List S36}
/-- The lists that were put together: each written over whole. -/
def LL (N : Nat) (own : Nat → Nat) (lv : Value) (lls : List Sl) (wi : World) : Prop :=
  Kd.R kS 30 wi 0 (fun x => own x = 8) lv lls ∧ ∀ m, m < lls.length → ∃ xs, Kd.R k36 36 wi 0 (fun x => own x = 10 + 2 * (m / 2)) (encS (sAt lls m)) xs ∧ (∀ x ∈ xs, x = badK (m / 2)) ∧ xs.length ≤ N + 40
/-- gv grew out of the i-th list, and may stand in its array. -/
def Sh (ss : List Sl) (f : Nat → List S36) (i : Nat) (gv : Value) (xs : List S36) : Prop :=
  ∀ b, gv.ownBlock = some b → (encS (sAt ss i)).ownBlock = some b → ∃ cap, encS (sAt ss i) = .slice (some ⟨b, 0, none⟩) (f i).length cap ∧ gv = .slice (some ⟨b, 0, none⟩) xs.length cap ∧ (f i).length ≤ xs.length ∧ f i = xs.take (f i).length
theorem LL.frm {I : Nat → Prop} (h : LL N own lv lls wi) (hf : Frm wi wj (fun x => I (own x))) (h8 : ¬ I 8) (hm : ∀ m, m < lls.length → ¬ I (10 + 2 * (m / 2))) (ho : ∀ x, x < wi.heap.size → own' x = own x) : LL N own' lv lls wj :=
  ⟨R_frm h.1 hf h8 ho, fun m hm' => by
    obtain ⟨xs, h1, h2, h3⟩ := h.2 m hm'
    exact ⟨xs, R_frm h1 hf (hm m hm') ho, h2, h3⟩⟩
theorem LL.below (h : LL N own lv lls wi) (hb : Below wi.heap.size wi wj) (id : Nat) : LL N (upd own wi id) lv lls wj :=
  h.frm (I := fun i => i = 9) (Frm.of_below hb (fun x => own x = 9)) (by decide) (fun m _ => by omega) (fun x hx => upd_old hx)
/-- An append to gv. -/
theorem grow_step {v1 : Value} {p : S36} (hE : EM w gw own vo ss f wi) (hL : LL N own lv lls wi) (hG : Kd.R k36 36 wi 0 (fun x => own x = 10 + 2 * i) gv xs) (hS : Sh ss f i gv xs) (hi : i < ss.length) (hl : lls.length = 2 * i)
    (hR1 : Kd.R k36 36 wj 0 (fun x => upd own wi (10 + 2 * i) x = 10 + 2 * i) v1 (xs ++ [p])) (hg : wi.grownBy wj gv.ownBlock)
    (hc : (∃ g cap, gv = .slice (some ⟨g, 0, none⟩) xs.length cap ∧ v1 = .slice (some ⟨g, 0, none⟩) (xs.length + 1) cap) ∨ (Below wi.heap.size wi wj ∧ ∀ b, v1.ownBlock = some b → wi.heap.size ≤ b)) :
    EM w gw (upd own wi (10 + 2 * i)) vo ss f wj ∧ LL N (upd own wi (10 + 2 * i)) lv lls wj ∧ Sh ss f i v1 (xs ++ [p]) := by
  have hf : Frm wi wj (fun x => own x = 10 + 2 * i) := Frm.of_row hg (fun k hk => hG.1 k hk)
  have hRi := hE.2.2.2.2.2 i hi
  refine ⟨hE.frm (I := fun x => x = 10 + 2 * i) hf (by omega) (by omega) (by omega) (fun x hx => upd_old hx) (fun j hj hI => ?_) (fun j _ _ => rfl), hL.frm (I := fun x => x = 10 + 2 * i) hf (by omega) (fun m hm => by omega) (fun x hx => upd_old hx), ?_⟩
  · obtain rfl : j = i := by omega
    rcases hc with ⟨g, cap, e1, e2⟩ | ⟨hb, _⟩
    · by_cases hsame : (encS (sAt ss j)).ownBlock = some g
      · obtain ⟨cap', h1, h2, h3, h4⟩ := hS g (by rw [e1]; rfl) hsame
        rw [e1] at h2
        injection h2 with _ _ h2
        rw [h1, ← h2]
        rw [e2] at hR1
        have ht := Kd.R_take hR1 (m := (f j).length) (by rw [List.length_append]; omega)
        rw [List.take_append_of_le_length h3, ← h4] at ht
        exact ht
      · have h1 : Kd.R k36 36 wi 0 (fun x => (own x = 10 + 2 * j ∧ x < wi.heap.size) ∧ x ≠ g) (encS (sAt ss j)) (f j) := R36_own (Kd.R_bound hRi) (fun k hk hok => ⟨⟨hok.1, hok.2.2.1⟩, fun e => hsame (by rw [hk, e])⟩)
        refine Kd.R_mono (Kd.R_step h1 (fun k hk hlt => hg.block k hlt (by rw [e1]; intro e; injection e with e; exact hk.2 e))) (fun k hk => (upd_old hk.1.2).trans hk.1.1)
    · exact R_frm (I := fun x => x = 9) hRi (Frm.of_below hb (fun x => own x = 9)) (by omega) (fun x hx => upd_old hx)
  · intro b hb1 hb2
    rcases hc with ⟨g, cap, e1, e2⟩ | ⟨_, hnew⟩
    · rw [e2] at hb1
      have hgb : g = b := by injection hb1
      subst hgb
      obtain ⟨cap', h1, h2, h3, h4⟩ := hS g (by rw [e1]; rfl) hb2
      rw [e1] at h2
      injection h2 with _ _ h2
      refine ⟨cap, by rw [h1, h2], by rw [e2, List.length_append]; rfl, by rw [List.length_append]; omega, ?_⟩
      rw [List.take_append_of_le_length h3]; exact h4
    · exact absurd (hnew b hb1) (by have := Kd.R_lt hRi b hb2; omega)
end Go.Proofs.Ytkndjjceijfdgaa.PAll

namespace Go.Proofs.Ytkndjjceijfdgaa.PAll
open Go.RowKit Go.Proofs.YtkndjjceijfdgaaW.PrintWords Go.Proofs.YtkndjjceijfdgaaW.PrintLast Go.Proofs.YtkndjjceijfdgaaW.PrintMore Go.Proofs.YtkndjjceijfdgaaM
set_option linter.unusedVariables false
set_option linter.unusedSimpArgs false
variable {w wi wj : World} {gw id N i : Nat} {own own' : Nat → Nat} {vo lv gv : Value} {ss lls : List Sl} {f : Nat → List S36} {xs : List S36}
section
variable {ops : Array Oper} {rest : List Oper} {o : Oper} {a : Act} {Q : Exit → Act → World → Prop}
theorem wpList_appendS2 {W : World} {xs : List Sl} {ok : Nat → Prop} (hgd : o.guard = none) (S x : Operand) (ho : o.op = .call { callee := .builtin .append, args := #[S, x], argTypes := #[60, 60] }) (v : Value) (p q : Sl) (hs : a.eval S = v) (hx : a.eval x = .slice (some ⟨W.heap.size, 0, none⟩) 2 2)
    (h : Kd.R kS 30 W 0 ok v xs) (hl : (xs.length + 2) * 24 ≤ 140737488355328) (hfresh : ∀ k, W.heap.size ≤ k → ok k)
    (hk : ∀ v1 w1, Kd.R kS 30 w1 0 ok v1 (xs ++ [p, q]) → W.grownBy w1 v.ownBlock → wpList Try.prog ops Q rest (a.put o.dst v1) w1) :
    wpList Try.prog ops Q (o :: rest) a (W.alloc (.cells #[.slice p.a p.n p.c, .slice q.a q.n q.c] 30)) := by
  have hb := heap_alloc_new W (.cells #[.slice p.a p.n p.c, .slice q.a q.n q.c] 30)
  have hnews : ∀ (j : Nat) u, [encS p, encS q][j]? = some u → (W.alloc (.cells #[.slice p.a p.n p.c, .slice q.a q.n q.c] 30)).cell? ((⟨W.heap.size, 0, none⟩ : Addr).add j) = some u := by
    exact World.news_of_block (cs := [encS p, encS q].toArray) (t := 30) (fr := (0, 0)) (heap_alloc_new W (.cells [encS p, encS q].toArray 30))
  have hgr0 := World.grownBy_alloc W (.cells #[.slice p.a p.n p.c, .slice q.a q.n q.c] 30) v.ownBlock
  refine Kd.R_append_rows kS (Rr := fun x cs => cs = [encS x]) (w0 := W.alloc (.cells #[.slice p.a p.n p.c, .slice q.a q.n q.c] 30)) 0 hgd S x 60 30 (.slice none 0 0) 24 ho Try.underlying60 info30 rfl (by decide) (by decide) v xs [p, q] (some ⟨W.heap.size, 0, none⟩) 2 2 ok (fun _ => False) hs hx (Kd.R_alloc h _) ⟨rfl, by decide, fun _ => ⟨_, rfl, fun j x hj => ⟨[encS x], rfl, rfl, fun m u hu => ?_⟩⟩⟩ (fun x cs h => h) (fun _ hk => hk.elim) (fun k hk' => hfresh k ?_) (Below.refl _ _) (Nat.zero_le _) hl (fun v1 w1 h1 _ h2 _ => hk v1 w1 h1 (hgr0.trans h2))
  · have hm : m = 0 := by
      rcases m with _ | m
      · rfl
      · simp at hu
    subst hm
    have hu' : encS x = u := by simpa using hu
    subst hu'
    refine hnews (j * 1 + 0) _ ?_
    rw [Nat.mul_one, Nat.add_zero]
    rcases j with _ | _ | j
    · have : p = x := by simpa using hj
      subst this; rfl
    · have : q = x := by simpa using hj
      subst this; rfl
    · simp at hj
  · simp at hk'; omega
end
theorem sAt_app_left {l l' : List Sl} {m : Nat} (h : m < l.length) : sAt (l ++ l') m = sAt l m := by
  unfold sAt
  rw [List.getD_eq_getElem?_getD, List.getD_eq_getElem?_getD, List.getElem?_append_left h]
theorem sAt_app_right {l l' : List Sl} {m : Nat} : sAt (l ++ l') (l.length + m) = sAt l' m := by
  unfold sAt
  rw [List.getD_eq_getElem?_getD, List.getD_eq_getElem?_getD, List.getElem?_append_right (Nat.le_add_right _ _), Nat.add_sub_cancel_left]
theorem long_step {v1 : Value} {g : Sl} (hE : EM w gw own vo ss f wi) (hL : LL N own lv lls wi) (hG : Kd.R k36 36 wi 0 (fun x => own x = 10 + 2 * i) (encS g) xs) (hi : i < ss.length) (hl : lls.length = 2 * i)
    (hR1 : Kd.R kS 30 wj 0 (fun x => upd own wi 8 x = 8) v1 (lls ++ [g, sAt ss i])) (hg : wi.grownBy wj lv.ownBlock) (hx : ∀ x ∈ xs, x = badK i) (hn : xs.length ≤ N + 40) (hfx : ∀ x ∈ f i, x = badK i) (hfn : (f i).length ≤ N) :
    EM w gw (upd own wi 8) vo ss f wj ∧ LL N (upd own wi 8) v1 (lls ++ [g, sAt ss i]) wj := by
  have hf : Frm wi wj (fun x => own x = 8) := Frm.of_row hg (fun k hk => hL.1.1 k hk)
  refine ⟨hE.frm (I := fun x => x = 8) hf (by omega) (by omega) (by omega) (fun x hx => upd_old hx) (fun j hj hI => by omega) (fun j _ _ => rfl), hR1, fun m hm => ?_⟩
  rw [List.length_append] at hm
  simp only [List.length_cons, List.length_nil] at hm
  by_cases h1 : m < lls.length
  · rw [sAt_app_left h1]
    obtain ⟨ys, h2, h3, h4⟩ := hL.2 m h1
    exact ⟨ys, R_frm (I := fun x => x = 8) h2 hf (by omega) (fun x hx => upd_old hx), h3, h4⟩
  · rcases (show m = lls.length + 0 ∨ m = lls.length + 1 by omega) with e | e
    · rw [e, sAt_app_right]
      have e2 : (lls.length + 0) / 2 = i := by omega
      rw [e2]
      exact ⟨xs, R_frm (I := fun x => x = 8) hG hf (by omega) (fun x hx => upd_old hx), hx, hn⟩
    · rw [e, sAt_app_right]
      have e2 : (lls.length + 1) / 2 = i := by omega
      rw [e2]
      exact ⟨f i, R_frm (I := fun x => x = 8) (hE.2.2.2.2.2 i hi) hf (by omega) (fun x hx => upd_old hx), hfx, by omega⟩
end Go.Proofs.Ytkndjjceijfdgaa.PAll

namespace Go.Proofs.Ytkndjjceijfdgaa.PAll
open Go.RowKit Go.Proofs.YtkndjjceijfdgaaW.PrintWords Go.Proofs.YtkndjjceijfdgaaW.PrintLast Go.Proofs.YtkndjjceijfdgaaW.PrintMore Go.Proofs.YtkndjjceijfdgaaM
set_option linter.unusedVariables false
set_option linter.unusedSimpArgs false
attribute [local go_sem high] eqA36
variable {w wi wj : World} {gw id N : Nat} {own own' : Nat → Nat} {s : WS}
theorem same_quiet {A0 A1 : Option Addr} {c0 c1 : Nat} {l : List S36} {W : World} (h0 : Kd.C k36 W A0 l.length l) (hc0 : l.length ≤ c0) (h1 : Kd.C k36 W A1 l.length l) (hc1 : l.length ≤ c1) (n : Nat) :
    Calls Try.prog 21 #[.slice A0 l.length c0, .slice A1 l.length c1] (W.drewN n) fun e w' => e = .returned (.bool true) ∧ ∃ m, w' = W.drewN m := by
  refine (same_any (Kd.C_drewN h0 n) hc0 (Kd.C_drewN h1 n) hc1).mono ?_
  rintro e w' ⟨he, m, hm⟩
  exact ⟨by rw [he, decide_eq_true rfl], n + m, by rw [hm, World.drewN_drewN]⟩
set_option maxRecDepth 100000 in
set_option maxHeartbeats 16000000 in
theorem ends_any (h : Mem w gw own s wi) (hr : Rel N s) (hN : N ≤ 2199023255552) :
    Calls Try.prog 27 #[.pointer (some ⟨gw, 0, none⟩)] wi fun e w' => e = .returned (.bool true) ∧ Below w.heap.size w w' := by
  have HM := Aside0.mk h
  have HLW := Aside0.mk hr.1
  have HNX := Aside0.mk (show ∀ i, (rAt s.xss i).length ≤ N from fun i => by
    unfold rAt
    rw [List.getD_eq_getElem?_getD]
    by_cases hi : i < s.xss.length
    · rw [List.getElem?_eq_getElem hi]; exact hr.2.2.2 _ (List.getElem_mem hi)
    · rw [List.getElem?_eq_none (by omega)]; exact Nat.zero_le _)
  obtain ⟨Ao, co, hvo, hlo, hco⟩ := Kd.R_reads h.2.2.2.2.2.1
  obtain ⟨Aw, cw, hvw, hlw, hcw⟩ := Kd.R_reads h.2.2.2.2.2.2.1
  have HCO := Aside0.mk hco
  have HCW := Aside0.mk hcw
  have HVO := Aside0.mk hvo
  have hn : s.ss.length ≤ 2199023255552 := by have := hr.1; have := hr.2.2.1; omega
  obtain ⟨c0, c1, c2, c3, c4, c5⟩ := h.cells
  rw [hvo] at c4
  rw [hvw, hr.1.2, ← hr.1.1] at c5
  have C4 := Aside0.mk c4
  have C5 := Aside0.mk c5
  clear h hr c0 c1 c2 c3 c4 c5 hvo hvw hlo hlw hco hcw
  go_enter Try.func27, Try.ntmps27
  go_wp2_with fail
  obtain ⟨wo, rfl⟩ : ∃ wo : World, wo = wi := ⟨_, rfl⟩
  go_loopw [3] (fun iv wr => ∃ j : Nat, j ≤ s.ss.length ∧ iv = .int .i64 j ∧ Aside0 (Below wo.heap.size wo wr)) (fun iv _ => s.ss.length - (intOf iv).toNat)
  case atStart => exact ⟨0, Nat.zero_le _, rfl, ⟨Below.refl _ _⟩⟩
  case round =>
    obtain ⟨j, hj, rfl, HB⟩ := hrel
    have c4 := keep_cell HB.out C4.out
    have c5 := keep_cell HB.out C5.out
    by_cases hlt : j < s.ss.length
    · have hlx : j < s.xss.length := by have := HLW.out.1; omega
      obtain ⟨ao, eo, o0⟩ := kS_cell (Kd.C_below HCO.out HB.out) hlt
      obtain ⟨aw, ew, w0⟩ := kS_cell (Kd.C_below HCW.out HB.out) (show j < s.ws.length by have := HLW.out; omega)
      subst eo ew
      have hX := (HM.out.2.2.2.2.2.2.2.2 j hlx).1
      have hY := (HM.out.2.2.2.2.2.2.2.2 j hlx).2
      have hXr := Kd.R_reads' hX
      have hYr := Kd.R_reads' hY
      rw [hXr.1] at o0
      rw [hYr.1] at w0
      have HXR := Aside0.mk (show (rAt s.xss j).length ≤ (sAt s.ss j).c ∧ Kd.C k36 wr (sAt s.ss j).a (rAt s.xss j).length (rAt s.xss j) from ⟨by have := hXr.2.1; omega, Kd.C_below hXr.2.2 HB.out⟩)
      have HYR := Aside0.mk (show (rAt s.xss j).length ≤ (sAt s.ws j).c ∧ Kd.C k36 wr (sAt s.ws j).a (rAt s.xss j).length (rAt s.xss j) from ⟨by have := hYr.2.1; omega, Kd.C_below hYr.2.2 HB.out⟩)
      clear hX hY hXr hYr
      go_wp2_with fail
      go_quiet ((go_at_call 21; exact same_quiet HXR.out.2 HXR.out.1 HYR.out.2 HYR.out.1 _))
      go_wp2_with fail
      go_roundw
      case rel => exact ⟨j + 1, by omega, by go_num, ⟨pw_below_drewN HB.out nq⟩⟩
      case measure => simp [intOf]; omega
    · have hj2 : ¬ j < s.ss.length := hlt
      have HE1 := Aside0.mk (show EM w gw (upd own wo 8) (.slice Ao s.ss.length co) s.ss (rAt s.xss) wr by rw [← HVO.out]; exact (HM.out.below HB.out 8).em HLW.out.1)
      go_wp2_with fail
      clear hlt hj hj2 c4 c5 HM HCO HCW C4 C5 HVO HLW HB
      generalize s.ss = ss at *
      generalize rAt s.xss = f0 at *
      obtain ⟨own0, hown0⟩ : ∃ own0, own0 = upd own wo 8 := ⟨_, rfl⟩
      rw [← hown0] at HE1
      clear hown0
      go_loopw [5] (fun iv w2 => ∃ (i : Nat) (own : Nat → Nat) (f : Nat → List S36), i ≤ ss.length ∧ iv = .int .i64 i ∧ Aside0 (EM w gw own (.slice Ao ss.length co) ss f w2 ∧ (∀ j, j < i → ∀ x ∈ f j, x = badK j) ∧ ∀ j, (f j).length ≤ N)) (fun iv _ => ss.length - (intOf iv).toNat)
      case atStart => exact ⟨0, own0, f0, Nat.zero_le _, rfl, ⟨HE1.out, fun j hj => by omega, HNX.out⟩⟩
      case round =>
        clear HE1 HNX
        obtain ⟨i, own, f, hi, rfl, HE⟩ := hrel
        have c4 := HE.out.1.cell
        by_cases hlt : i < ss.length
        · obtain ⟨_, _, hR, hlo, hco⟩ := Kd.R_reads HE.out.1.2.2.2.2.1
          cases hR
          obtain ⟨ao, eo, o0⟩ := kS_cell hco hlt
          subst eo
          clear hlo hco
          go_wp2_with fail
          go_loopw [6] (fun kv w3 => ∃ (k : Nat) (own : Nat → Nat) (f : Nat → List S36), k ≤ (sAt ss i).n ∧ kv = .int .i64 k ∧ Aside0 (EM w gw own (.slice (some ao) ss.length co) ss f w3 ∧ (∀ j, j < i → ∀ x ∈ f j, x = badK j) ∧ (∀ m, m < k → kAt (f i) m = badK i) ∧ ∀ j, (f j).length ≤ N)) (fun kv _ => (sAt ss i).n - (intOf kv).toNat)
          case atStart => exact ⟨0, own, f, Nat.zero_le _, rfl, ⟨HE.out.1, HE.out.2.1, fun m hm => by omega, HE.out.2.2⟩⟩
          case round =>
            clear HE c4 o0
            obtain ⟨k, own, f, hk, rfl, HE⟩ := hrel
            have c4 := HE.out.1.cell
            have hco := (Kd.R_reads' HE.out.1.2.2.2.2.1).2.2
            obtain ⟨_, eo, o0⟩ := kS_cell hco hlt
            cases eo
            clear hco
            have HRI := Aside0.mk (HE.out.1.2.2.2.2.2 i hlt)
            have HNI := Aside0.mk (Kd.R_reads' HRI.out).1
            have hni : (sAt ss i).n ≤ 2199023255552 := by rw [HNI.out]; exact Nat.le_trans (HE.out.2.2.2 i) hN
            by_cases hkl : k < (sAt ss i).n
            · rcases own_form HRI.out with ⟨e0, _⟩ | ⟨b, cap, e0⟩
              · exfalso
                unfold encS at e0
                injection e0 with _ e1 _
                omega
              · have HE0 := Aside0.mk e0
                unfold encS at e0
                injection e0 with e1 e2 e3
                rw [e1] at o0
                have hRI := HRI.out
                rw [HE0.out] at hRI
                obtain ⟨c, hc, hM, hcc, hfz⟩ := Kd.R_elem hRI z36 (k : Int) (by omega) (by omega)
                obtain rfl := k36_openM hM
                rw [Int.toNat_natCast] at hcc hfz
                have y0 := hcc 0 _ rfl
                have y1 := hcc 1 _ rfl
                have y2 := hcc 2 _ rfl
                have y3 := hcc 3 _ rfl
                have y4 := hcc 4 _ rfl
                have z0 := hfz 0
                have z1 := hfz 1
                have z2 := hfz 2
                have z3 := hfz 3
                have z4 := hfz 4
                change wr.cell? ⟨b, k * 5, none⟩ = _ at y0
                change wr.cell? ⟨b, k * 5 + 1, none⟩ = _ at y1
                change wr.cell? ⟨b, k * 5 + 2, none⟩ = _ at y2
                change wr.cell? ⟨b, k * 5 + 3, none⟩ = _ at y3
                change wr.cell? ⟨b, k * 5 + 4, none⟩ = _ at y4
                change wr.frozen? ⟨b, k * 5, none⟩ = _ at z0
                change wr.frozen? ⟨b, k * 5 + 1, none⟩ = _ at z1
                change wr.frozen? ⟨b, k * 5 + 2, none⟩ = _ at z2
                change wr.frozen? ⟨b, k * 5 + 3, none⟩ = _ at z3
                change wr.frozen? ⟨b, k * 5 + 4, none⟩ = _ at z4
                clear e1 e2 e3 hRI hc hM hcc hfz
                have hkf : k < (f i).length := by have := HNI.out; omega
                have HP := Aside0.mk (HE.out.1.put hlt HE0.out hkf (badK i))
                clear HE0
                go_wp2_with fail
                go_roundw
                case rel =>
                  refine ⟨k + 1, own, _, by omega, by go_num, ⟨HP.out, fun j hj x hx => ?_, fun m hm => ?_, fun j => ?_⟩⟩
                  · rw [if_neg (by omega)] at hx
                    exact HE.out.2.1 j hj x hx
                  · rw [if_pos rfl, kAt_set hkf]
                    by_cases hmk : m = k
                    · rw [if_pos hmk]
                    · rw [if_neg hmk]; exact HE.out.2.2.1 m (by omega)
                  · by_cases hji : j = i
                    · rw [if_pos hji, List.length_set]; exact HE.out.2.2.2 i
                    · rw [if_neg hji]; exact HE.out.2.2.2 j
                case measure => simp [intOf]; omega
            · have HF := Aside0.mk (show ∀ j, j < i + 1 → ∀ x ∈ f j, x = badK j from fun j hj x hx => by
                by_cases hji : j = i
                · subst hji
                  obtain ⟨m, hm, e⟩ := mem_kAt hx
                  rw [← e]
                  exact HE.out.2.2.1 m (by have := HNI.out; omega)
                · exact HE.out.2.1 j (by omega) x hx)
              go_wp2_with fail
              go_roundw
              case rel => exact ⟨i + 1, own, f, by omega, by go_num, ⟨HE.out.1, HF.out, HE.out.2.2.2⟩⟩
              case measure => simp [intOf]; omega
        · obtain rfl : i = ss.length := by omega
          go_wp2_with fail
          clear c4 hlt hi
          go_loopw [7, 8] (fun lv iv w2 => ∃ (i : Nat) (own : Nat → Nat) (lls : List Sl), i ≤ ss.length ∧ iv = .int .i64 i ∧ Aside0 (EM w gw own (.slice Ao ss.length co) ss f w2 ∧ lls.length = 2 * i ∧ LL N own lv lls w2)) (fun _ iv _ => ss.length - (intOf iv).toNat)
          case atStart => exact ⟨0, own, [], Nat.zero_le _, rfl, ⟨HE.out.1, rfl, Kd.R_nil _ _ _ _ _, fun m hm => by simp at hm⟩⟩
          case round =>
            have HFB := Aside0.mk HE.out.2
            clear HE
            obtain ⟨i, own, lls, hi, rfl, HL⟩ := hrel
            have c4 := HL.out.1.cell
            by_cases hlt : i < ss.length
            · have hco := (Kd.R_reads' HL.out.1.2.2.2.2.1).2.2
              obtain ⟨ao, eo, o0⟩ := kS_cell hco hlt
              subst eo
              clear hco
              have HRI := Aside0.mk (HL.out.1.2.2.2.2.2 i hlt)
              have HNI := Aside0.mk (Kd.R_reads' HRI.out).1
              go_wp2_with fail
              clear c4 o0
              go_loopw [9, 10] (fun gv kv w3 => ∃ (k : Nat) (own : Nat → Nat) (xs : List S36), k ≤ 40 ∧ kv = .int .i64 k ∧ Aside0 (EM w gw own (.slice (some ao) ss.length co) ss f w3 ∧ LL N own u7 lls w3 ∧ Kd.R k36 36 w3 0 (fun x => own x = 10 + 2 * i) gv xs ∧ Sh ss f i gv xs ∧ (∀ x ∈ xs, x = badK i) ∧ xs.length ≤ N + k)) (fun _ kv _ => 40 - (intOf kv).toNat)
              case atStart =>
                refine ⟨0, own, f i, Nat.zero_le _, rfl, ⟨HL.out.1, HL.out.2.2, HRI.out, fun b hb1 hb2 => ?_, HFB.out.1 i hlt, HFB.out.2 i⟩⟩
                rcases own_form HRI.out with ⟨e0, _⟩ | ⟨b', cap, e0⟩
                · rw [e0] at hb2; cases hb2
                · rw [e0] at hb2
                  have : b' = b := by injection hb2
                  subst this
                  refine ⟨cap, e0, e0, Nat.le_refl _, ?_⟩
                  rw [List.take_length]
              case round =>
                obtain ⟨k, own, xs, hk, rfl, HG⟩ := hrel
                by_cases hkl : k < 40
                · have hl : (xs.length + 1) * 40 ≤ 140737488355328 := by have := HG.out.2.2.2.2.2; omega
                  have HL1 := Aside0.mk hl
                  go_wp2_with (at_builtin; refine wpList_append36 rfl (.tmp 92) (.tmp 96) rfl u9 (badK i) rfl rfl (ok := fun x => upd own wr (10 + 2 * i) x = 10 + 2 * i) (Kd.R_mono (Kd.R_bound HG.out.2.2.1) (fun x hx => (upd_old hx.2.2.1).trans hx.1)) HL1.out (fun x hx => upd_new hx) ?_; intro v1 w5 hR1 hgr hcase; have HS := Aside0.mk (grow_step HG.out.1 HG.out.2.1 HG.out.2.2.1 HG.out.2.2.2.1 hlt HL.out.2.1 hR1 hgr hcase); replace hR1 := Aside0.mk hR1; clear hgr hcase)
                  go_roundw
                  case rel =>
                    refine ⟨k + 1, upd own wr (10 + 2 * i), xs ++ [badK i], by omega, by go_num, ⟨HS.out.1, HS.out.2.1, hR1.out, HS.out.2.2, fun x hx => ?_, ?_⟩⟩
                    · rcases List.mem_append.1 hx with hx | hx
                      · exact HG.out.2.2.2.2.1 x hx
                      · exact List.mem_singleton.1 hx
                    · rw [List.length_append]
                      have := HG.out.2.2.2.2.2
                      simp only [List.length_cons, List.length_nil]
                      omega
                  case measure => simp [intOf]; omega
                · obtain rfl : k = 40 := by omega
                  have c4 := HG.out.1.cell
                  have hco := (Kd.R_reads' HG.out.1.2.2.2.2.1).2.2
                  obtain ⟨_, eo, o0⟩ := kS_cell hco hlt
                  cases eo
                  clear hco
                  obtain ⟨ag, cg, eg, hlg, hcg⟩ := Kd.R_reads HG.out.2.2.1
                  subst eg
                  clear hlg hcg
                  have HLn := Aside0.mk HL.out.2.1
                  have HLB := Aside0.mk (show (lls.length + 2) * 24 ≤ 140737488355328 by rw [HLn.out]; omega)
                  have HBX := Aside0.mk (show ∀ (x y : Value), Below wr.heap.size wr (wr.alloc (.cells #[x, y] 30)) from fun x y => below_alloc (Below.refl _ _) _)
                  go_wp2_with (at_builtin; refine wpList_appendS2 rfl (.tmp 98) (.tmp 107) rfl u7 ⟨ag, xs.length, cg⟩ (sAt ss i) rfl rfl (ok := fun x => upd own wr 8 x = 8) (Kd.R_mono (Kd.R_bound HG.out.2.1.1) (fun x hx => (upd_old hx.2.2.1).trans hx.1)) HLB.out (fun x hx => upd_new hx) ?_; intro v1 w5 hR1 hgr; have HS := Aside0.mk (long_step (g := ⟨ag, xs.length, cg⟩) HG.out.1 HG.out.2.1 HG.out.2.2.1 hlt HLn.out hR1 hgr HG.out.2.2.2.2.1 HG.out.2.2.2.2.2 (HFB.out.1 i hlt) (HFB.out.2 i)); clear hR1 hgr)
                  go_roundw
                  case rel =>
                    refine ⟨i + 1, upd own wr 8, lls ++ [⟨ag, xs.length, cg⟩, sAt ss i], by omega, by go_num, ⟨HS.out.1, ?_, HS.out.2⟩⟩
                    rw [List.length_append, HLn.out]
                    simp only [List.length_cons, List.length_nil]
                    omega
                  case measure => simp [intOf]; omega
            · obtain rfl : i = ss.length := by omega
              obtain ⟨al, cl, el, hll, hcl⟩ := Kd.R_reads HL.out.2.2.1
              subst el
              have HCL := Aside0.mk hcl
              have HBL := Aside0.mk HL.out.1.1
              have HLL := Aside0.mk HL.out.2.2.2
              have hln : lls.length ≤ 4398046511104 := by have := HL.out.2.1; omega
              clear HL HFB hll hcl hlt hi
              go_wp2_with fail
              clear c4
              obtain ⟨wz, hwz⟩ : ∃ wz : World, wz = wr := ⟨_, rfl⟩
              rw [← hwz] at HCL HBL HLL ⊢
              clear hwz
              go_loopw [11] (fun iv w2 => ∃ m : Nat, m ≤ lls.length ∧ iv = .int .i64 m ∧ w2 = wz) (fun iv _ => lls.length - (intOf iv).toNat)
              case atStart => exact ⟨0, Nat.zero_le _, rfl, rfl⟩
              case round =>
                obtain ⟨m, hm, rfl, rfl⟩ := hrel
                by_cases hlt : m < lls.length
                · obtain ⟨ap, ep, p0⟩ := kS_cell HCL.out hlt
                  subst ep
                  obtain ⟨ys, hRy, hys, hyl⟩ := HLL.out m hlt
                  have hRy' := Kd.R_reads' hRy
                  have HY := Aside0.mk hRy'
                  have HYS := Aside0.mk hys
                  rw [hRy'.1] at p0
                  have hyn : ys.length ≤ 4398046511104 := by omega
                  clear hRy hRy' hys hyl
                  have ed : Int.tdiv (m : Int) 2 = ((m / 2 : Nat) : Int) := by rw [Int.tdiv_eq_ediv_of_nonneg (by omega)]; omega
                  have hdl : m / 2 ≤ 4398046511104 := by omega
                  obtain ⟨d, hd⟩ : ∃ d, d = m / 2 := ⟨_, rfl⟩
                  rw [← hd] at ed hdl HYS
                  clear hd
                  have eq1 : IntKind.i64.wrap (d : Int) = (d : Int) := by rw [IntWalk.i64_in _ (by omega)]
                  have eq2 : IntKind.i64.wrap (-1 - (d : Int)) = -1 - (d : Int) := by rw [IntWalk.i64_in _ (by omega)]
                  go_wp2_with fail
                  go_loopw [12] (fun kv w2 => ∃ k : Nat, k ≤ ys.length ∧ kv = .int .i64 k ∧ w2 = wr) (fun kv _ => ys.length - (intOf kv).toNat)
                  case atStart => exact ⟨0, Nat.zero_le _, rfl, rfl⟩
                  case round =>
                    obtain ⟨k, hk, rfl, rfl⟩ := hrel
                    by_cases hkl : k < ys.length
                    · obtain ⟨ad, ea, y0, y1, y2, y3, y4⟩ := at_T36 HY.out.2.2 (k : Int) (by omega) (by omega)
                      rw [Int.toNat_natCast] at y0 y1 y2 y3 y4
                      have hbad : rd_T36 ys (k : Int) = badK d := by
                        refine HYS.out _ ?_
                        unfold rd_T36
                        rw [Int.toNat_natCast, List.getD_eq_getElem?_getD, List.getElem?_eq_getElem hkl]
                        exact List.getElem_mem hkl
                      rw [hbad] at y0 y1 y2 y3 y4
                      unfold badK at y0 y1 y2 y3 y4
                      dsimp only at y0 y1 y2 y3 y4
                      rw [ea] at p0
                      go_wp2_with (unfold Oper.wp execOp; simp only [go_sem]; rw [ed, eq1])
                      go_roundw
                      case rel => exact ⟨k + 1, by omega, by go_num, trivial⟩
                      case measure => simp [intOf]; omega
                    · go_wp2_with fail
                      go_roundw
                      case rel => exact ⟨m + 1, by omega, by go_num, trivial⟩
                      case measure => simp [intOf]; omega
                · go_wp2_with fail
                  go_ret
                  exact ⟨rfl, HBL.out⟩
end Go.Proofs.Ytkndjjceijfdgaa.PAll

namespace Go.Proofs.Ytkndjjceijfdgaa.PAll
open Go.RowKit Go.Proofs.YtkndjjceijfdgaaW.PrintWords Go.Proofs.YtkndjjceijfdgaaW.PrintLast Go.Proofs.YtkndjjceijfdgaaW.PrintMore Go.Proofs.YtkndjjceijfdgaaM
set_option linter.unusedVariables false
set_option linter.unusedSimpArgs false
/-- World's block, n tables and m counts of the law's own laid. -/
def pCell (f : Nat → Nat) (n k : Nat) : Value := .pointer (if k < n then some ⟨f k, 0, none⟩ else none)
def PB (w : World) (gw : Nat) (own b bl bh g : Nat → Nat) (n m : Nat) (wi : World) : Prop :=
  Below w.heap.size w wi ∧ (∀ x, x < w.heap.size → own x = 0) ∧ (wi.heap[gw]? = some (.cells #[pCell b n 0, pCell b n 1, pCell g m 0, pCell g m 1, .slice none 0 0, .slice none 0 0] 62 (0, 0)) ∧ own gw = 7) ∧
  (∀ k, k < n → CT own (1 + k) wi (b k) (bl k) (bh k) [] []) ∧ (∀ k, k < m → FAt wi (g k) (fun x => own x = 3 + k) [] [])
theorem keep_fz {wk wk' : World} (hb : Below wk.heap.size wk wk') {a : Addr} {v : Value} (hc : wk.cell? a = some v) (h : wk.frozen? a = false) : wk'.frozen? a = false := by
  unfold World.frozen? at *
  rw [hb.block _ (World.block_lt_of_cell? wk a hc)]; exact h
theorem blk_fz {w : World} {b i : Nat} {cs : Array Value} {t : TypeId} (h : w.heap[b]? = some (.cells cs t (0, 0))) : w.frozen? ⟨b, i, none⟩ = false := by
  unfold World.frozen?
  rw [h]; simp
variable {w wi wj : World} {gw n m : Nat} {own b bl bh g : Nat → Nat}
theorem PB.start {w2 : World} (h : Below w.heap.size w w2) : PB w w2.heap.size (fun x => if x < w.heap.size then 0 else 7) (fun _ => 0) (fun _ => 0) (fun _ => 0) (fun _ => 0) 0 0 (w2.alloc (.cells #[.pointer none, .pointer none, .pointer none, .pointer none, .slice none 0 0, .slice none 0 0] 62)) := by
  have hs := h.size
  exact ⟨below_alloc h _, fun x hx => if_pos hx, ⟨heap_alloc_new w2 _, if_neg (by omega)⟩, fun k hk => by omega, fun k hk => by omega⟩
theorem PB.turn {n m n' m' j : Nat} {id : Nat} {v : Value} {b' bl' bh' g' : Nat → Nat} (h : PB w gw own b bl bh g n m wi) (hn2 : n ≤ 2) (hm2 : m ≤ 2) (hb : Below wi.heap.size wi wj) (hid : id ≠ 0)
    (hc : ∀ cs, wj.heap[gw]? = some (.cells cs 62 (0, 0)) → cs = #[pCell b n 0, pCell b n 1, pCell g m 0, pCell g m 1, .slice none 0 0, .slice none 0 0] → cs.setIfInBounds j v = #[pCell b' n' 0, pCell b' n' 1, pCell g' m' 0, pCell g' m' 1, .slice none 0 0, .slice none 0 0])
    (hT : ∀ k, k < n' → (k < n ∧ b' k = b k ∧ bl' k = bl k ∧ bh' k = bh k) ∨ CT (upd own wi id) (1 + k) (wj.setCell ⟨gw, j, none⟩ v) (b' k) (bl' k) (bh' k) [] [])
    (hF : ∀ k, k < m' → (k < m ∧ g' k = g k) ∨ FAt (wj.setCell ⟨gw, j, none⟩ v) (g' k) (fun x => upd own wi id x = 3 + k) [] []) :
    PB w gw (upd own wi id) b' bl' bh' g' n' m' (wj.setCell ⟨gw, j, none⟩ v) := by
  obtain ⟨h1, h2, ⟨h3, h3'⟩, h4, h5⟩ := h
  have hlt := (Array.getElem?_eq_some_iff.1 h3).1
  have hsz := h1.size
  have hf : Frm wi (wj.setCell ⟨gw, j, none⟩ v) (fun x => own x = 7) := (Frm.of_below hb _).trans (Frm.set wj gw j v (F := fun x => own x = 7) h3') (fun x _ h => h)
  have hcj := (hb.block gw hlt).trans h3
  refine ⟨⟨hf.os.trans h1.os, hf.tape.trans h1.tape, hf.output.trans h1.output, Nat.le_trans h1.size hf.size, fun x hx => (hf.block x (by omega) (fun e => by rw [h2 x hx] at e; omega)).trans (h1.block x hx)⟩, fun x hx => by rw [upd_old (by omega)]; exact h2 x hx, ⟨?_, (upd_old hlt).trans h3'⟩, fun k hk => ?_, fun k hk => ?_⟩
  · rw [heap_setCell_same _ _ j _ _ _ hcj]
    rw [← hc _ hcj rfl]
  · rcases hT k hk with ⟨hk', e1, e2, e3⟩ | hT
    · rw [e1, e2, e3]
      exact (h4 k hk').frm (I := fun x => x = 7) hf (by omega) (fun x hx => upd_old hx)
    · exact hT
  · rcases hF k hk with ⟨hk', e1⟩ | hF
    · rw [e1]
      exact F_frm (I := fun x => x = 7) (h5 k hk') hf (by omega) (fun x hx => upd_old hx)
    · exact hF
theorem PB.table {b1 b2 b3 : Nat} (h : PB w gw own b bl bh g n m wi) (hn : n < 2) (hm2 : m ≤ 2) (hT : TAt wj b1 b2 b3 [] []) (hb : Below wi.heap.size wi wj) (e1 : wi.heap.size ≤ b1) (e2 : wi.heap.size ≤ b2) (e3 : wi.heap.size ≤ b3) :
    PB w gw (upd own wi (1 + n)) (setAt b n b1) (setAt bl n b2) (setAt bh n b3) g (n + 1) m (wj.setCell ⟨gw, n, none⟩ (.pointer (some ⟨b1, 0, none⟩))) := by
  have hlt := (Array.getElem?_eq_some_iff.1 h.2.2.1.1).1
  refine h.turn (by omega) (by omega) hb (by omega) (fun cs _ e => ?_) (fun k hk => ?_) (fun k hk => .inl ⟨hk, rfl⟩)
  · subst e
    rcases (show n = 0 ∨ n = 1 by omega) with rfl | rfl <;> simp [pCell, setAt]
  · by_cases hk' : k < n
    · exact .inl ⟨hk', setAt_ne (by omega), setAt_ne (by omega), setAt_ne (by omega)⟩
    · obtain rfl : k = n := by omega
      right
      rw [setAt_same, setAt_same, setAt_same]
      exact ⟨hT.same (heap_setCell_other _ _ _ _ (by show b1 ≠ gw; omega)) (heap_setCell_other _ _ _ _ (by show b2 ≠ gw; omega)) (heap_setCell_other _ _ _ _ (by show b3 ≠ gw; omega)), upd_new e1, upd_new e2, upd_new e3⟩
theorem PB.count {b1 : Nat} (h : PB w gw own b bl bh g n m wi) (hm : m < 2) (hn2 : n ≤ 2) (hF : FAt wj b1 (fun x => wi.heap.size ≤ x) [] []) (hb : Below wi.heap.size wi wj) :
    PB w gw (upd own wi (3 + m)) b bl bh (setAt g m b1) n (m + 1) (wj.setCell ⟨gw, 2 + m, none⟩ (.pointer (some ⟨b1, 0, none⟩))) := by
  have hlt := (Array.getElem?_eq_some_iff.1 h.2.2.1.1).1
  refine h.turn (by omega) (by omega) hb (by omega) (fun cs _ e => ?_) (fun k hk => .inl ⟨hk, rfl, rfl, rfl⟩) (fun k hk => ?_)
  · subst e
    rcases (show m = 0 ∨ m = 1 by omega) with rfl | rfl <;> simp [pCell, setAt]
  · by_cases hk' : k < m
    · exact .inl ⟨hk', setAt_ne (by omega)⟩
    · obtain rfl : k = m := by omega
      right
      rw [setAt_same]
      exact (hF.frm (Frm.set wj gw (2 + k) _ (F := fun x => x = gw) rfl) (fun x _ hx e => by omega)).mono (fun x _ hx => upd_new hx)
theorem PB.below (h : PB w gw own b bl bh g n m wi) (hn2 : n ≤ 2) (hm2 : m ≤ 2) (hb : Below wi.heap.size wi wj) : PB w gw (upd own wi 9) b bl bh g n m wj := by
  obtain ⟨h1, h2, ⟨h3, h3'⟩, h4, h5⟩ := h
  have hlt := (Array.getElem?_eq_some_iff.1 h3).1
  have hsz := h1.size
  have hf := Frm.of_below hb (fun x => own x = 9)
  exact ⟨h1.trans (hb.mono h1.size), fun x hx => by rw [upd_old (by omega)]; exact h2 x hx, ⟨(hb.block gw hlt).trans h3, (upd_old hlt).trans h3'⟩, fun k hk => (h4 k hk).frm (I := fun x => x = 9) hf (by omega) (fun x hx => upd_old hx), fun k hk => F_frm (I := fun x => x = 9) (h5 k hk) hf (by omega) (fun x hx => upd_old hx)⟩
/-- The state at the script's head. -/
def WS0 (b bl bh g : Nat → Nat) : WS := ⟨b, bl, bh, g, fun _ => [], fun _ => [], fun _ => [], fun _ => [], .slice none 0 0, .slice none 0 0, [], [], []⟩
theorem PB.mem (h : PB w gw own b bl bh g 2 2 wi) : Mem w gw own (WS0 b bl bh g) wi ∧ Rel 0 (WS0 b bl bh g) := by
  obtain ⟨h1, h2, h3, h4, h5⟩ := h
  refine ⟨⟨h1, h2, h3, h4, h5, Kd.R_nil _ _ _ _ _, Kd.R_nil _ _ _ _ _, ⟨Nat.le_refl _, Nat.le_refl _⟩, fun i hi => absurd hi (Nat.not_lt_zero _)⟩, ⟨rfl, rfl⟩, fun k hk => ⟨?_, fun m => Iff.rfl, ?_, Nat.le_refl _, Nat.le_refl _, Nat.le_refl _⟩, Nat.le_refl _, fun xs hx => by cases hx⟩
  · exact ⟨fun k n => by simp [WS0], List.Pairwise.nil⟩
  · intro p hp; cases hp
set_option maxRecDepth 100000 in
set_option maxHeartbeats 16000000 in
theorem TimersPlays_walk (w : World) (A0 : Option Addr) (c0 : Nat) (l0 : List OpV) (x0 : OpsAt w A0 l0) (h0 : l0.length ≤ c0) (y0 : l0.length * 64 ≤ 140737488351232) (g0 : ∀ q ∈ l0, OkOp q) :
    Calls Try.prog 6 #[.slice A0 l0.length c0] w fun e w' => e = .returned (.bool true) ∧ Below w.heap.size w w' := by
  have X0 := Aside0.mk x0
  have G0 := Aside0.mk g0
  clear x0 g0
  go_enter Try.func6, Try.ntmps6
  go_wp2_with fail
  refine (awake_any _).mono ?_
  rintro e w2 ⟨rfl, hb⟩
  have B1 := Aside0.mk hb
  clear hb
  go_wp2_with fail
  obtain ⟨gw, hgw⟩ : ∃ gw, gw = w2.heap.size := ⟨_, rfl⟩
  have HP0 := Aside0.mk (PB.start B1.out)
  rw [← hgw] at HP0 ⊢
  clear hgw B1
  go_loopw [5] (fun i wr => ∃ (k : Nat) (own b bl bh g : Nat → Nat), k ≤ 2 ∧ i = .int .i64 k ∧ Aside0 (PB w gw own b bl bh g k k wr)) (fun i _ => 2 - (intOf i).toNat)
  case atStart => exact ⟨0, _, _, _, _, _, Nat.zero_le _, rfl, HP0⟩
  case round =>
    clear HP0
    obtain ⟨k, own, b, bl, bh, g, hk, rfl, HP⟩ := hrel
    by_cases hlt : k < 2
    · obtain rfl | rfl : k = 0 ∨ k = 1 := by omega
      · have t0 : wr.cell? ⟨gw, 0, none⟩ = some (.pointer none) := by rw [blk_cell HP.out.2.2.1.1]; rfl
        have tz : wr.frozen? ⟨gw, 0, none⟩ = false := blk_fz HP.out.2.2.1.1
        go_wp2_with fail
        go_region_with (go_at_call 9; refine (new_any wr.drew).mono ?_; rintro e w5 ⟨b1, b2, b3, rfl, hT, hb, e1, e2, e3⟩; have t0' := keep_cell hb (show wr.drew.cell? ⟨gw, 0, none⟩ = _ from t0); have tz' := keep_fz hb (show wr.drew.cell? ⟨gw, 0, none⟩ = _ from t0) (show wr.drew.frozen? ⟨gw, 0, none⟩ = _ from tz))
        have HP5 := Aside0.mk (HP.out.table (by decide) (by decide) hT (show Below wr.heap.size wr w5 from (below_drew (Below.refl _ _)).trans hb) e1 e2 e3)
        clear hT hb e1 e2 e3 t0 tz t0' tz' HP
        obtain ⟨wA, hwA⟩ : ∃ W, W = w5.setCell ⟨gw, 0, none⟩ (.pointer (some ⟨b1, 0, none⟩)) := ⟨_, rfl⟩
        rw [← hwA] at HP5 ⊢
        clear hwA
        have t0 : wA.cell? ⟨gw, 2 + 0, none⟩ = some (.pointer none) := by rw [blk_cell HP5.out.2.2.1.1]; rfl
        have tz : wA.frozen? ⟨gw, 2 + 0, none⟩ = false := blk_fz HP5.out.2.2.1.1
        go_wp2_with fail
        go_region_with (go_at_call 24; refine (rnew_any wA.drew).mono ?_; rintro e w6 ⟨b4, rfl, hF, hb⟩; have t0' := keep_cell hb (show wA.drew.cell? ⟨gw, 2 + 0, none⟩ = _ from t0); have tz' := keep_fz hb (show wA.drew.cell? ⟨gw, 2 + 0, none⟩ = _ from t0) (show wA.drew.frozen? ⟨gw, 2 + 0, none⟩ = _ from tz))
        have HP6 := Aside0.mk (HP5.out.count (by decide) (by decide) hF (show Below wA.heap.size wA w6 from (below_drew (Below.refl _ _)).trans hb))
        clear hF hb t0 tz t0' tz' HP5
        obtain ⟨wB, hwB⟩ : ∃ W, W = w6.setCell ⟨gw, 2 + 0, none⟩ (.pointer (some ⟨b4, 0, none⟩)) := ⟨_, rfl⟩
        have hwB' : wB = w6.setCell ⟨gw, 2, none⟩ (.pointer (some ⟨b4, 0, none⟩)) := hwB
        rw [← hwB] at HP6
        rw [← hwB']
        clear hwB hwB'
        have t0 : wB.cell? ⟨gw, 0, none⟩ = some (.pointer (some ⟨b1, 0, none⟩)) := by rw [blk_cell HP6.out.2.2.1.1]; simp [pCell, setAt]
        go_wp2_with fail
        go_roundw
        case rel => exact ⟨0 + 1, _, _, _, _, _, by decide, by go_num, HP6⟩
        case measure => simp [intOf]
      · have t0 : wr.cell? ⟨gw, 1, none⟩ = some (.pointer none) := by rw [blk_cell HP.out.2.2.1.1]; rfl
        have tz : wr.frozen? ⟨gw, 1, none⟩ = false := blk_fz HP.out.2.2.1.1
        go_wp2_with fail
        go_region_with (go_at_call 9; refine (new_any wr.drew).mono ?_; rintro e w5 ⟨b1, b2, b3, rfl, hT, hb, e1, e2, e3⟩; have t0' := keep_cell hb (show wr.drew.cell? ⟨gw, 1, none⟩ = _ from t0); have tz' := keep_fz hb (show wr.drew.cell? ⟨gw, 1, none⟩ = _ from t0) (show wr.drew.frozen? ⟨gw, 1, none⟩ = _ from tz))
        have HP5 := Aside0.mk (HP.out.table (by decide) (by decide) hT (show Below wr.heap.size wr w5 from (below_drew (Below.refl _ _)).trans hb) e1 e2 e3)
        clear hT hb e1 e2 e3 t0 tz t0' tz' HP
        obtain ⟨wA, hwA⟩ : ∃ W, W = w5.setCell ⟨gw, 1, none⟩ (.pointer (some ⟨b1, 0, none⟩)) := ⟨_, rfl⟩
        rw [← hwA] at HP5 ⊢
        clear hwA
        have t0 : wA.cell? ⟨gw, 2 + 1, none⟩ = some (.pointer none) := by rw [blk_cell HP5.out.2.2.1.1]; rfl
        have tz : wA.frozen? ⟨gw, 2 + 1, none⟩ = false := blk_fz HP5.out.2.2.1.1
        go_wp2_with fail
        go_region_with (go_at_call 24; refine (rnew_any wA.drew).mono ?_; rintro e w6 ⟨b4, rfl, hF, hb⟩; have t0' := keep_cell hb (show wA.drew.cell? ⟨gw, 2 + 1, none⟩ = _ from t0); have tz' := keep_fz hb (show wA.drew.cell? ⟨gw, 2 + 1, none⟩ = _ from t0) (show wA.drew.frozen? ⟨gw, 2 + 1, none⟩ = _ from tz))
        have HP6 := Aside0.mk (HP5.out.count (by decide) (by decide) hF (show Below wA.heap.size wA w6 from (below_drew (Below.refl _ _)).trans hb))
        clear hF hb t0 tz t0' tz' HP5
        obtain ⟨wB, hwB⟩ : ∃ W, W = w6.setCell ⟨gw, 2 + 1, none⟩ (.pointer (some ⟨b4, 0, none⟩)) := ⟨_, rfl⟩
        have hwB' : wB = w6.setCell ⟨gw, 3, none⟩ (.pointer (some ⟨b4, 0, none⟩)) := hwB
        rw [← hwB] at HP6
        rw [← hwB']
        clear hwB hwB'
        have t0 : wB.cell? ⟨gw, 1, none⟩ = some (.pointer (some ⟨b1, 0, none⟩)) := by rw [blk_cell HP6.out.2.2.1.1]; simp [pCell, setAt]
        go_wp2_with fail
        go_roundw
        case rel => exact ⟨1 + 1, _, _, _, _, _, by decide, by go_num, HP6⟩
        case measure => simp [intOf]
    · obtain rfl : k = 2 := by omega
      have HM := Aside0.mk HP.out.mem
      clear HP
      obtain ⟨s0, hs0⟩ : ∃ s0, s0 = WS0 b bl bh g := ⟨_, rfl⟩
      rw [← hs0] at HM
      clear hs0
      rw [show ((2 : Nat) : Int) = 2 from rfl]
      go_wp2_with fail
      go_loopw [6] (fun i wr => ∃ (j : Nat) (own : Nat → Nat) (s : WS), j ≤ l0.length ∧ i = .int .i64 j ∧ Aside0 (Mem w gw own s wr ∧ Rel j s)) (fun i _ => l0.length - (intOf i).toNat)
      case atStart => exact ⟨0, own, s0, Nat.zero_le _, rfl, HM⟩
      case round =>
        clear HM
        obtain ⟨j, own, s, hj, rfl, HM⟩ := hrel
        by_cases hjl : j < l0.length
        · have hq : l0[j]? = some l0[j] := List.getElem?_eq_getElem hjl
          obtain ⟨q, hq'⟩ : ∃ q, q = l0[j] := ⟨_, rfl⟩
          rw [← hq'] at hq
          clear hq'
          have HQ := Aside0.mk (G0.out q (List.mem_of_getElem? hq))
          obtain ⟨ad, rfl, q0, q1, q2, q3, q4, q5, q6, q7⟩ := op_cells X0.out hq HM.out.1.1
          clear hq
          go_wp2_with fail
          refine (step_any HM.out.1 HM.out.2 (by omega) q HQ.out).mono ?_
          rintro e w7 ⟨rfl, own', s', hm, hr⟩
          have HM' := Aside0.mk (And.intro hm hr)
          clear hm hr q0 q1 q2 q3 q4 q5 q6 q7 HM
          go_wp2_with fail
          go_roundw
          case rel => exact ⟨j + 1, own', s', by omega, by go_num, HM'⟩
          case measure => simp [intOf]; omega
        · obtain rfl : j = l0.length := by omega
          have hN : l0.length ≤ 2199023255552 := by omega
          go_wp2_with fail
          refine (all_any HM.out.1 HM.out.2 hN 0 (.inl rfl)).mono ?_
          rintro e w7 ⟨rfl, hb⟩
          have HM1 := Aside0.mk (And.intro (HM.out.1.below hb 8) HM.out.2)
          clear hb HM
          go_wp2_with fail
          refine (all_any HM1.out.1 HM1.out.2 hN 1 (.inr rfl)).mono ?_
          rintro e w8 ⟨rfl, hb⟩
          have HM2 := Aside0.mk (And.intro (HM1.out.1.below hb 8) HM1.out.2)
          clear hb HM1
          go_wp2_with fail
          refine (ends_any HM2.out.1 HM2.out.2 hN).mono ?_
          rintro e w9 ⟨rfl, hb⟩
          have HB := Aside0.mk hb
          clear hb HM2
          go_wp2_with fail
          go_ret
          exact ⟨rfl, HB.out⟩
end Go.Proofs.Ytkndjjceijfdgaa.PAll

