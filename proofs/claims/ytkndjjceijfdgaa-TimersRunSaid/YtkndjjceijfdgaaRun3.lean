/- A table and a run side by side: what each call leaves. -/
import Derived.Test.YtkndjjceijfdgaaRun2
namespace Go.Proofs.Ytkndjjceijfdgaa.PAll
open Go.RowKit Go.Proofs.YtkndjjceijfdgaaW.PrintWords Go.Proofs.YtkndjjceijfdgaaW.PrintLast Go.Proofs.YtkndjjceijfdgaaW.PrintMore Go.Proofs.YtkndjjceijfdgaaM
set_option linter.unusedVariables false
set_option linter.unusedSimpArgs false
variable {w wi wj : World} {B b bl bh rb : Nat} {T T' : List (S36 × Int)} {Hd Hd' : List Int} {K K' : List S36} {L L' : List Int}
/-- Keys of a run. -/
def KK (K : List S36) : Prop := K.Nodup ∧ (∀ x ∈ K, Small x) ∧ ∀ x ∈ K, x.f0 ≤ 3
/-- A table (below B), a run (from B on). -/
def RI (w : World) (B b bl bh rb : Nat) (T : List (S36 × Int)) (Hd : List Int) (K : List S36) (L : List Int) (wi : World) : Prop :=
  St w b bl bh T Hd wi ∧ (b < B ∧ bl < B ∧ bh < B) ∧ RAt B wi rb K L ∧ Below w.heap.size w wi ∧ Sm T ∧ KK K ∧ w.heap.size ≤ B
theorem RI.below (h : RI w B b bl bh rb T Hd K L wi) (hb : Below wi.heap.size wi wj) : RI w B b bl bh rb T Hd K L wj :=
  ⟨h.1.below hb, h.2.1, h.2.2.1.below hb, h.2.2.2.1.trans (hb.mono h.2.2.2.1.size), h.2.2.2.2⟩
theorem RI.ltB (h : RI w B b bl bh rb T Hd K L wi) : B ≤ wi.heap.size := by
  have h1 := h.2.2.1.lt
  obtain ⟨_, _, _, h2, _⟩ := h.2.2.1
  omega
/-- The run has been turned. -/
theorem RI.run (h : RI w B b bl bh rb T Hd K L wi) (hr : RAt B wj rb K' L') (hb : Below B wi wj) (hK : KK K') : RI w B b bl bh rb T Hd K' L' wj :=
  ⟨h.1.turn (h.1.1.same (hb.block _ h.2.1.1) (hb.block _ h.2.1.2.1) (hb.block _ h.2.1.2.2)), h.2.1, hr, h.2.2.2.1.trans (hb.mono h.2.2.2.2.2.2), h.2.2.2.2.1, hK, h.2.2.2.2.2.2⟩
theorem RI.table {c : Nat} (h : RI w B b bl bh rb T Hd K L wi) (hT : TAt wj b bl bh T' Hd') (hg : wi.grownBy wj (some c)) (hc : c < B) (hw : w.heap.size ≤ c) (hS : Sm T') : RI w B b bl bh rb T' Hd' K L wj :=
  ⟨h.1.turn hT, h.2.1, h.2.2.1.grown hg hc, h.2.2.2.1.grown hg h.2.2.2.1.size (fun j hj => by injection hj with hj; omega), hS, h.2.2.2.2.2⟩
theorem RI.len (h : RI w B b bl bh rb T Hd K L wi) : T.length ≤ 100000 := small_len h.1.1.nodup h.2.2.2.2.1
theorem keys_len (h : KK K) : K.length ≤ 100000 := by
  have h1 : (K.map code).Nodup := by
    rw [List.nodup_iff_pairwise_ne, List.pairwise_map]
    refine List.Pairwise.imp_of_mem (R := fun a b => a ≠ b) ?_ h.1
    intro a b ha hb hab e
    exact hab (code_inj (h.2.1 a ha) (h.2.1 b hb) e)
  have h2 := nodup_len _ (List.range 100000) h1 (fun x hx => by
    obtain ⟨k, hk, rfl⟩ := List.mem_map.1 hx
    have := h.2.1 k hk
    unfold Small at this
    rw [List.mem_range]; unfold code; omega)
  rwa [List.length_range, List.length_map] at h2
theorem RI.start (h : RI w B b bl bh rb T Hd K L wi) {k : S36} (hk : Small k) {n : Int} (h1 : 1 ≤ n) (h2 : n ≤ 1048576) :
    Calls Try.prog 12 #[.pointer (some ⟨b, 0, none⟩), .agg #[.int .i64 k.f0, .int .i64 k.f1.f0, .int .i64 k.f1.f1, .int .i64 k.f2, .int .i64 k.f3], .int .i64 n] wi fun e w' => e = .returned (.int .i64 0) ∧ RI w B b bl bh rb (putT T k n) Hd K L w' ∧ wi.grownBy w' (some bl) := by
  refine (start_st h.1 k hk.wk n (Nat.lt_of_le_of_lt h.len maxLen_100000) (hk.start h1 h2) (hk.startT h1 h2 T)).mono ?_
  rintro e w' ⟨rfl, hs, hg⟩
  exact ⟨rfl, h.table hs.1 hg h.2.1.2.1 h.1.2.2.1 (h.2.2.2.2.1.put hk h1 h2), hg⟩
theorem RI.rstart (h : RI w B b bl bh rb T Hd K L wi) {k : S36} (hk : Small k) (hk3 : k.f0 ≤ 3) (n : Int) :
    Calls Try.prog 13 #[.pointer (some ⟨rb, 0, none⟩), .agg #[.int .i64 k.f0, .int .i64 k.f1.f0, .int .i64 k.f1.f1, .int .i64 k.f2, .int .i64 k.f3], .int .i64 n] wi fun e w' => e = .returned (.tuple #[]) ∧ ∃ K' L', RI w B b bl bh rb T Hd K' L' w' ∧ Started1 k n K L K' L' := by
  refine (rstart_any h.2.2.1 k n h.ltB (keys_len h.2.2.2.2.2.1)).mono ?_
  rintro e w' ⟨rfl, ⟨K', L', hr, hs⟩, hb⟩
  have hKK := h.2.2.2.2.2.1
  exact ⟨rfl, K', L', h.run hr hb ⟨hs.nodup hKK.1, hs.small hk hKK.2.1, hs.peers hk3 hKK.2.2⟩, hs⟩
theorem RI.count (h : RI w B b bl bh rb T Hd K L wi) : Calls Try.prog 14 #[.pointer (some ⟨b, 0, none⟩)] wi fun e w' => e = .returned (.int .i64 T.length) ∧ w' = wi := count_any h.1.1
theorem RI.hold (h : RI w B b bl bh rb T Hd K L wi) {n : Int} (hn : W64 n) (hr : Hd.length < maxLen) :
    Calls Try.prog 16 #[.pointer (some ⟨b, 0, none⟩), .int .i64 n] wi fun e w' => e = .returned (.tuple #[]) ∧ ∃ Hd', RI w B b bl bh rb T Hd' K L w' ∧ (∀ m, m ∈ Hd' ↔ m = n ∨ m ∈ Hd) ∧ Hd'.length ≤ Hd.length + 1 := by
  refine (hold_any h.1.1 n hn hr).mono ?_
  rintro e w' ⟨rfl, ⟨Hd', hT, hm, hl⟩, hg⟩
  exact ⟨rfl, Hd', h.table hT hg h.2.1.2.2 h.1.2.2.2 h.2.2.2.2.1, hm, hl⟩
theorem RI.go (h : RI w B b bl bh rb T Hd K L wi) {n : Int} (hn : W64 n) :
    Calls Try.prog 17 #[.pointer (some ⟨b, 0, none⟩), .int .i64 n] wi fun e w' => e = .returned (.tuple #[]) ∧ ∃ Hd', RI w B b bl bh rb T Hd' K L w' ∧ (∀ m, m ∈ Hd' ↔ m ≠ n ∧ m ∈ Hd) ∧ Hd'.length ≤ Hd.length := by
  refine (go_any h.1.1 n hn).mono ?_
  rintro e w' ⟨rfl, ⟨Hd', hT, hm, hl⟩, hg⟩
  exact ⟨rfl, Hd', h.table hT hg h.2.1.2.2 h.1.2.2.2 h.2.2.2.2.1, hm, hl⟩
theorem RI.tick (h : RI w B b bl bh rb T Hd K L wi) :
    Calls Try.prog 19 #[.pointer (some ⟨b, 0, none⟩)] wi fun e w' => ∃ A c, e = .returned (.slice A (sortK (outT Hd T)).length c) ∧ NewRow wi.heap.size w' (.slice A (sortK (outT Hd T)).length c) (sortK (outT Hd T)) ∧ RI w B b bl bh rb (tickT Hd T) Hd K L w' := by
  refine (tick_new h.1.1 h.2.2.2.2.1.good (by have := h.len; omega)).mono ?_
  rintro e w' ⟨x, rfl, hR, hTA, hg⟩
  obtain ⟨A, c, rfl, _⟩ := Kd.R_reads hR
  exact ⟨A, c, rfl, hR, h.table hTA hg h.2.1.2.1 h.1.2.2.1 h.2.2.2.2.1.tick⟩
theorem kAt_sort {xs : List S36} (hn : xs.Nodup) (i : Nat) (h : i + 1 < (sortK xs).length) : KLt (kAt (sortK xs) i) (kAt (sortK xs) (i + 1)) := by
  have := sort_less hn i h
  unfold kAt
  rw [List.getD_eq_getElem?_getD, List.getD_eq_getElem?_getD, List.getElem?_eq_getElem h, List.getElem?_eq_getElem (by omega)]
  exact this
/-- Ticks left behind k ticks. -/
def Lb (k : Nat) (L : List Int) : Prop := ∀ j, j < L.length → -(k : Int) ≤ lAt L j ∧ lAt L j ≤ 12
theorem Lb.tick {k : Nat} {h : Int} (hb : Lb k L) (ht : Ticked h K L L' K.length) : Lb (k + 1) L' := by
  intro j hj
  rw [ht.1] at hj
  have h1 := hb j hj
  rw [ht.2 j hj]
  split
  · split
    · omega
    · omega
  · omega
theorem RI.rtick (h : RI w B b bl bh rb T' Hd K L wi) {hh : Int} (hT : (keysT T).Nodup) (hM : Match T K L) (hp : ∀ q : Int, 1 ≤ q → q < 4 → (q ∈ Hd ↔ heldF hh q = true)) {k : Nat} (hk : k ≤ 17592186044416) (hL : Lb k L) {Bo : Nat} {A : Option Addr} {c : Nat} (hR : NewRow Bo wi (.slice A (sortK (outT Hd T)).length c) (sortK (outT Hd T))) (hTT : T' = tickT Hd T) :
    Calls Try.prog 18 #[.pointer (some ⟨rb, 0, none⟩), .int .i64 hh, .slice A (sortK (outT Hd T)).length c] wi fun e w' => e = .returned (.bool true) ∧ ∃ L', RI w B b bl bh rb T' Hd K L' w' ∧ Lb (k + 1) L' ∧ Match T' K L' := by
  have hKK := h.2.2.2.2.2.1
  have hl := h.2.2.1.len
  have hh' : ∀ j, j < K.length → ((kAt K j).f0 ∈ Hd ↔ heldF hh (kAt K j).f0 = true) := fun j hj => hp _ (hKK.2.1 _ (kAt_mem hj)).1.1 (by have := hKK.2.2 _ (kAt_mem hj); omega)
  obtain ⟨h1, h2⟩ := hM.out hT hKK.1 hh'
  refine (rtick_any h.2.2.1 hh hR h.ltB (fun x hx => ⟨(hKK.2.1 x hx).1.1, by have := hKK.2.2 x hx; omega⟩) (fun i hi => by have := hL i hi; omega) h1 h2 (fun i hi => kAt_sort (outT_nodup hT) i hi) (keys_len hKK)).mono ?_
  rintro e w' ⟨rfl, ⟨L', hr, ht⟩, hb⟩
  exact ⟨rfl, L', h.run hr hb hKK, hL.tick ht, by rw [hTT]; exact hM.tick hl hh' ht⟩
theorem RI.left_yes (h : RI w B b bl bh rb T Hd K L wi) {k : S36} (hk : Small k) {n : Int} (hm : (k, n) ∈ T) :
    Calls Try.prog 20 #[.pointer (some ⟨b, 0, none⟩), .agg #[.int .i64 k.f0, .int .i64 k.f1.f0, .int .i64 k.f1.f1, .int .i64 k.f2, .int .i64 k.f3]] wi fun e w' => e = .returned (.tuple #[.int .i64 n, .bool true]) ∧ Below wi.heap.size wi w' := PAll.left_yes h.1.1 hk.wk hm
theorem RI.left_no (h : RI w B b bl bh rb T Hd K L wi) {k : S36} (hk : Small k) (hm : k ∉ keysT T) :
    Calls Try.prog 20 #[.pointer (some ⟨b, 0, none⟩), .agg #[.int .i64 k.f0, .int .i64 k.f1.f0, .int .i64 k.f1.f1, .int .i64 k.f2, .int .i64 k.f3]] wi fun e w' => e = .returned (.tuple #[.int .i64 0, .bool false]) ∧ Below wi.heap.size wi w' := PAll.left_no h.1.1 hk.wk hm
/-- A slice of ints that came in. -/
def Ints (w : World) (a : Option Addr) (len cap : Nat) (zs : List Int) : Prop :=
  (a = none ∧ len = 0 ∧ cap = 0 ∧ zs = []) ∨ ∃ x, a = some x ∧ len ≤ cap ∧ cap ≤ maxLen ∧ zs.length = cap ∧ (∀ i, i < zs.length → w.cell? (x.add i) = some (.int .i64 (zs.getD i 0))) ∧ ∀ n ∈ zs, (Lit.int .i64 n).wf = true
theorem Ints.at {a : Option Addr} {len cap : Nat} {zs : List Int} (h : Ints w a len cap zs) {i : Nat} (hi : i < len) (hb : Below w.heap.size w wi) : ∃ ad, a = some ad ∧ wi.cell? (ad.add i) = some (.int .i64 (zs.getD i 0)) ∧ W64 (zs.getD i 0) := by
  rcases h with ⟨_, rfl, _⟩ | ⟨x, rfl, h1, h2, h3, h4, h5⟩
  · omega
  · have hc := h4 i (by omega)
    refine ⟨x, rfl, (hb.cell (World.block_lt_of_cell? w _ hc)).trans hc, h5 _ ?_⟩
    rw [List.getD_eq_getElem?_getD, List.getElem?_eq_getElem (by omega)]
    exact List.getElem_mem _
end Go.Proofs.Ytkndjjceijfdgaa.PAll
