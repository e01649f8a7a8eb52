/- Worlds that a call turns at one map's block alone: a relation beside Below, its lemmas, and the map's operations. -/
import Derived.Test.YtockkelkdimehaaP0
import Derived.Test.YtockkelkdimehaaHand
import Derived.Maps.OwnOps
import Derived.DeepKeys4
namespace Go.Proofs.Ytockkelkdimehaa.P
open Go Go.RowKit Go.Proofs.YtockkelkdimehaaW.PrintWords Go.Proofs.YtockkelkdimehaaW.PrintLast Go.Proofs.YtockkelkdimehaaW.PrintMore
set_option linter.unusedVariables false
set_option linter.unusedSimpArgs false
/-- Below, but for block B where that holds what Pm knows: Pm knows it still. -/
structure BelowX (B : Nat) (Pm : Obj → Prop) (base : Nat) (w w' : World) : Prop where
  os : w'.os = w.os
  tape : w'.tape = w.tape
  output : w'.output = w.output
  size : w.heap.size ≤ w'.heap.size
  block : ∀ k, k < base → (k ≠ B ∨ ∃ cs t fr, w.heap[k]? = some (.cells cs t fr)) → w'.heap[k]? = w.heap[k]?
  cell : ∀ {p : Addr}, p.block < base → w'.cell? p = w.cell? p
  held : ∀ o, w.heap[B]? = some o → Pm o → ∃ o', w'.heap[B]? = some o' ∧ Pm o'
def MI (B : Nat) (Pm : Obj → Prop) (w : World) : Prop := ∃ o, w.heap[B]? = some o ∧ Pm o
section
variable {B : Nat} {Pm : Obj → Prop} {base : Nat} {w W w1 w2 : World}
theorem BelowX.refl (base : Nat) (w : World) : BelowX B Pm base w w := ⟨rfl, rfl, rfl, Nat.le_refl _, fun _ _ _ => rfl, fun _ => rfl, fun o h hp => ⟨o, h, hp⟩⟩
theorem mx_of (h : Below W.heap.size W w1) : BelowX B Pm W.heap.size W w1 :=
  ⟨h.os, h.tape, h.output, h.size, fun k hk _ => h.block k hk, fun hp => h.cell hp, fun o ho hp => ⟨o, (h.block B (blk_lt ho)).trans ho, hp⟩⟩
theorem BelowX.below (h : BelowX B Pm base w w1) (hb : base ≤ B) : Below base w w1 := ⟨h.os, h.tape, h.output, h.size, fun k hk => h.block k hk (.inl (by omega))⟩
theorem BelowX.mono {b : Nat} (h : BelowX B Pm base w w1) (hb : b ≤ base) : BelowX B Pm b w w1 := ⟨h.os, h.tape, h.output, h.size, fun k hk hc => h.block k (by omega) hc, fun hp => h.cell (by omega), h.held⟩
theorem mx_size (h : BelowX B Pm w.heap.size w W) : w.heap.size ≤ W.heap.size := h.size
theorem mx_step (h : BelowX B Pm w.heap.size w W) (k : BelowX B Pm W.heap.size W w2) : BelowX B Pm w.heap.size w w2 :=
  ⟨k.os.trans h.os, k.tape.trans h.tape, k.output.trans h.output, Nat.le_trans h.size k.size,
    fun i hi hc => by
      have e := h.block i hi hc
      refine (k.block i (Nat.lt_of_lt_of_le hi h.size) ?_).trans e
      rcases hc with hc | ⟨cs, t, fr, hc⟩
      · exact .inl hc
      · exact .inr ⟨cs, t, fr, e.trans hc⟩,
    fun hp => (k.cell (Nat.lt_of_lt_of_le hp h.size)).trans (h.cell hp),
    fun o ho hp => by
      obtain ⟨o1, h1, p1⟩ := h.held o ho hp
      exact k.held o1 h1 p1⟩
theorem mx_alloc (h : BelowX B Pm w.heap.size w W) (o : Obj) : BelowX B Pm w.heap.size w (W.alloc o) := mx_step h (mx_of (below_alloc (Below.refl _ _) o))
theorem mx_drewN (h : BelowX B Pm base w W) (n : Nat) : BelowX B Pm base w (W.drewN n) := ⟨h.os, h.tape, h.output, h.size, h.block, h.cell, h.held⟩
theorem mx_drew1 (h : BelowX B Pm base w W) : BelowX B Pm base w W.drew := ⟨h.os, h.tape, h.output, h.size, h.block, h.cell, h.held⟩
theorem mx_set {g j : Nat} {v : Value} (h : BelowX B Pm w.heap.size w W) (hg : w.heap.size ≤ g) : BelowX B Pm w.heap.size w (W.setCell ⟨g, j, none⟩ v) := by
  have hh : ∀ k, k < w.heap.size → (W.setCell ⟨g, j, none⟩ v).heap[k]? = W.heap[k]? := fun k hk => Below.heap_setCell W ⟨g, j, none⟩ v k (by show k ≠ g; omega)
  refine ⟨h.os, h.tape, h.output, by have := h.size; simpa using this, fun k hk hc => (hh k hk).trans (h.block k hk hc), fun {p} hp => (World.cell?_of_block (w := W) (hh p.block hp)).trans (h.cell hp), fun o ho hp => ?_⟩
  obtain ⟨o1, h1, p1⟩ := h.held o ho hp
  exact ⟨o1, (hh B (blk_lt ho)).trans h1, p1⟩
theorem mx_grown {row : Option Nat} (h : BelowX B Pm w.heap.size w W) (hg : W.grownBy w1 row) (hr : ∀ k, row = some k → w.heap.size ≤ k) : BelowX B Pm w.heap.size w w1 := by
  have hh : ∀ k, k < w.heap.size → w1.heap[k]? = W.heap[k]? := fun k hk => hg.block k (Nat.lt_of_lt_of_le hk h.size) (fun e => by have := hr k e.symm; omega)
  refine ⟨hg.os.trans h.os, hg.tape.trans h.tape, hg.output.trans h.output, Nat.le_trans h.size hg.size, fun k hk hc => (hh k hk).trans (h.block k hk hc), fun {p} hp => (World.cell?_of_block (w := W) (hh p.block hp)).trans (h.cell hp), fun o ho hp => ?_⟩
  obtain ⟨o1, h1, p1⟩ := h.held o ho hp
  exact ⟨o1, (hh B (blk_lt ho)).trans h1, p1⟩
def BstX (B : Nat) (Pm : Obj → Prop) (w0 w w1 : World) : Prop := BelowX B Pm w0.heap.size w0 w → BelowX B Pm w0.heap.size w0 w1
instance bstx_refl : Nonempty (BstX B Pm w w1 w1) := ⟨fun h => h⟩
instance bstx_alloc (o : Obj) [h : Nonempty (BstX B Pm w W w1)] : Nonempty (BstX B Pm w W (w1.alloc o)) := h.elim fun h => ⟨fun k => mx_alloc (h k) o⟩
instance bstx_drewN (m : Nat) [h : Nonempty (BstX B Pm w W w1)] : Nonempty (BstX B Pm w W (w1.drewN m)) := h.elim fun h => ⟨fun k => mx_drewN (h k) m⟩
instance bstx_drew [h : Nonempty (BstX B Pm w W w1)] : Nonempty (BstX B Pm w W w1.drew) := h.elim fun h => ⟨fun k => mx_drew1 (h k)⟩
instance bstx_set (g j : Nat) (v : Value) [h : Nonempty (BstX B Pm w W w1)] [hg : Nonempty (w.heap.size ≤ g)] : Nonempty (BstX B Pm w W (w1.setCell ⟨g, j, none⟩ v)) := h.elim fun h => hg.elim fun hg => ⟨fun k => mx_set (h k) hg⟩
theorem mx_laB (h : BelowX B Pm w.heap.size w W) [i : Nonempty (BstX B Pm w W w1)] : BelowX B Pm w.heap.size w w1 := i.elim fun i => i h
theorem mx_cell_below {a : Addr} {v : Value} (h : BelowX B Pm w.heap.size w w1) (hc : w.cell? a = some v) : w1.cell? a = some v := (h.cell (World.block_lt_of_cell? w a hc)).trans hc
theorem mx_blk {g : Nat} {o : Obj} (h : w.heap[g]? = some o) (hb : BelowX B Pm w.heap.size w w1) (hc : ∃ cs t fr, o = .cells cs t fr := by exact ⟨_, _, _, rfl⟩) : w1.heap[g]? = some o := by
  obtain ⟨cs, t, fr, rfl⟩ := hc
  exact (hb.block g (blk_lt h) (.inr ⟨cs, t, fr, h⟩)).trans h
theorem mx_mi (h : MI B Pm w) (hb : BelowX B Pm w.heap.size w w1) : MI B Pm w1 := by
  obtain ⟨o, ho, hp⟩ := h
  exact hb.held o ho hp
theorem below_of_grown_ (h : W.grownBy w1 none) : Below W.heap.size W w1 := ⟨h.os, h.tape, h.output, h.size, fun k hk => h.block k hk (by simp)⟩
/-- Kinds whose cells are read alike behind such a call. -/
class KdX {α : Type} (d : Kd α) : Prop where
  k : ∀ {B : Nat} {Pm : Obj → Prop} {w w1 : World} {x : α} {cs : List Value}, BelowX B Pm w.heap.size w w1 → d.K w x cs → d.K w1 x cs
instance kdx_scalar {α : Type} {enc : α → Value} {h1 : ∀ x, (enc x).oneCell' = true} : KdX (Kd.scalar enc h1) := ⟨fun _ h => h⟩
instance kdx_int {q : IntKind} : KdX (Kd.int q) := ⟨fun _ h => h⟩
instance kdx_bool : KdX Kd.bool := ⟨fun _ h => h⟩
instance kdx_string : KdX Kd.string := ⟨fun _ h => h⟩
instance kdx_pair {α β : Type} {a : Kd α} {b : Kd β} [ha : KdX a] [hb : KdX b] : KdX (Kd.pair a b) := ⟨fun h ⟨c0, c1, e, h0, h1⟩ => ⟨c0, c1, e, ha.k h h0, hb.k h h1⟩⟩
instance kdx_iso {α β : Type} {d : Kd α} {f : β → α} [hd : KdX d] : KdX (Kd.iso d f) := ⟨fun h k => hd.k h k⟩
theorem mx_C_below {α : Type} {d : Kd α} [hd : KdX d] {A : Option Addr} {n : Nat} {xs : List α} (h : d.C w A n xs) (hb : BelowX B Pm w.heap.size w w1) : d.C w1 A n xs :=
  ⟨h.1, h.2.1, fun hn => by
    obtain ⟨ad, e, hc⟩ := h.2.2 hn
    refine ⟨ad, e, fun j p hj => ?_⟩
    obtain ⟨c, hs, hr, hcell⟩ := hc j p hj
    exact ⟨c, hs, hd.k hb hr, fun i u hu => mx_cell_below hb (hcell i u hu)⟩⟩
instance kdx_slice {α : Type} {e : Nat} {d : Kd α} [hd : KdX d] : KdX (Kd.slice e d) := ⟨fun h ⟨A, c, e, hl, hr⟩ => ⟨A, c, e, hl, mx_C_below hr h⟩⟩
instance kdx_k61 : KdX k61 := inferInstanceAs (KdX (Kd.iso (Kd.pair (Kd.int .i64) (Kd.int .i64)) (fun x : S61 => (x.f0, x.f1))))
instance kdx_k59 : KdX k59 := inferInstanceAs (KdX (Kd.iso (Kd.pair (Kd.int .i64) (Kd.int .i64)) (fun x : S59 => (x.f0, x.f1))))
instance kdx_k37 : KdX k37 := inferInstanceAs (KdX (Kd.iso (Kd.pair (Kd.slice 3 (Kd.int .i64)) (Kd.pair (Kd.slice 3 (Kd.int .i64)) (Kd.slice 3 (Kd.int .i64)))) (fun x : S37 => (x.f0, x.f1, x.f2))))
instance kdx_k75 : KdX k75 := inferInstanceAs (KdX (Kd.iso (Kd.pair (Kd.int .i64) (Kd.int .i64)) (fun x : S75 => (x.f0, x.f1))))
variable {α : Type} {d : Kd α} {e : Nat} {ok : Nat → Prop} {u v : Value} {xs : List α}
theorem mx_bound (hb : BelowX B Pm w.heap.size w w1) {k : Nat} (h : k < w.heap.size ∧ ∃ q, q ∈ e :: d.E ∧ ∃ cells, w.heap[k]? = some (.cells cells q (0, 0))) : w1.heap[k]? = w.heap[k]? := by
  obtain ⟨h1, q, _, cells, hc⟩ := h
  exact hb.block k h1 (.inr ⟨_, _, _, hc⟩)
theorem mx_R_below (h : d.R e w base ok v xs) (hb : BelowX B Pm w.heap.size w w1) : d.R e w1 base ok v xs :=
  Kd.R_mono (Kd.R_move (Kd.R_bound h) (fun k hk => mx_bound (d := d) (e := e) hb hk.2.2)) (fun _ hk => hk.1)
theorem mx_S_below (h : Kd.S d e w base ok v xs) (hb : BelowX B Pm w.heap.size w w1) : Kd.S d e w1 base ok v xs := by
  obtain ⟨f, h⟩ := h
  exact ⟨f, mx_R_below h hb⟩
theorem mx_R_elder' (h : d.R e W base ok u xs) (hbase : ∀ k, v.ownBlock = some k → W.heap.size ≤ k) (hb : BelowX B Pm W.heap.size W w1) : d.R e w1 base (fun k => ok k ∧ some k ≠ v.ownBlock) u xs :=
  Kd.R_mono (Kd.R_move (Kd.R_bound h) (fun k hk => mx_bound (d := d) (e := e) hb hk.2.2)) (fun k hk => ⟨hk.1, fun e => by have := hbase k e.symm; have := hk.2.2.1; omega⟩)
theorem mx_S_elder' (h : Kd.S d e W base ok u xs) (hbase : ∀ k, v.ownBlock = some k → W.heap.size ≤ k) (hb : BelowX B Pm W.heap.size W w1) : Kd.S d e w1 base (fun k => ok k ∧ some k ≠ v.ownBlock) u xs := by
  obtain ⟨f, h⟩ := h
  exact ⟨f, mx_R_elder' h hbase hb⟩
theorem mx_laRb (h : d.R e w base ok v xs) (hb : BelowX B Pm w1.heap.size w1 w2) [i : Nonempty (Ltr w w1)] : d.R e w2 base ok v xs := mx_R_below (laR h) hb
theorem mx_laSb (h : Kd.S d e w base ok v xs) (hb : BelowX B Pm w1.heap.size w1 w2) [i : Nonempty (Ltr w w1)] : Kd.S d e w2 base ok v xs := mx_S_below (laS h) hb
theorem mx_laKb {g : Nat} {o : Obj} (h : w.heap[g]? = some o) (hb : BelowX B Pm w1.heap.size w1 w2) [i : Nonempty (Ltr w w1)] (hc : ∃ cs t fr, o = .cells cs t fr := by exact ⟨_, _, _, rfl⟩) : w2.heap[g]? = some o := mx_blk (laK h) hb hc
theorem mx_miA {w w1 : World} (h : MI B Pm w) [i : Nonempty (Ltr w w1)] : MI B Pm w1 := i.elim fun i => mx_mi h (mx_of i)
end
/-! #### the map's operations: v, ok := m[k]; m[k] = v -/
section
variable {P : Program} {ops : Array Oper} {rest : List Oper} {o : Oper} {a : Act} {Q : Exit → Act → World → Prop}
theorem mx_make {oi : Oper} {N : Option Tmp} {w : World} {K : Act → World → Prop} (hw : Region.wanted oi (yielded ops a.tmps) = true) (hN : oi.dst = N) (t : TypeId) (hop : oi.op = .makeMap t none)
    (h : ∀ b w1, b = w.heap.size → w1.heap[b]? = some (.map #[] 0) → Below w.heap.size w w1 → K (a.put N (.map (some b))) w1) : if Region.wanted oi (yielded ops a.tmps) = true then Oper.wp P oi a w K Q else K (a.put N undef) w := by
  refine value_ hw hN (v := .map (some w.heap.size)) (w1 := w.alloc (.map #[] 0)) ?_ (h _ _ rfl (by simpa using heap_alloc_new w (.map #[] 0)) (below_alloc (Below.refl _ _) _))
  unfold execOp
  rw [hop]
  rfl
theorem mx_far {w : World} {B : Nat} {o : Obj} (h : w.heap[B]? = some o) {p : Addr} (hp : B ≠ p.block) (u : Value) : (w.setCell p u).heap[B]? = some o := (Below.heap_setCell w p u B hp).trans h
theorem mx_ne {w : World} {B g : Nat} {es : Array MapEntry} {c : Nat} {cs : Array Value} {t : TypeId} {fr : Nat × Nat} (h : w.heap[B]? = some (.map es c)) (h2 : w.heap[g]? = some (.cells cs t fr)) : B ≠ g := by
  rintro rfl
  rw [h] at h2
  cases h2
theorem mx_end {B : Nat} {Pm : Obj → Prop} {w W w2 : World} (h : Below w.heap.size w W) (k : BelowX B Pm W.heap.size W w2) (hB : w.heap.size ≤ B) : Below w.heap.size w w2 := (mx_step (mx_of h) k).below hB
theorem mx_lookup {w : World} (hg : o.guard = none) (m x : Operand) (t : TypeId) (hop : o.op = Op.lookup t m x true) (k e : TypeId) (K : Maps.Keyed P k) (ht : P.underlying t = some (.map k e)) (z : Value) (hz : (zeroValue e).run P w = .ok z w) (b : Nat)
    (hm : a.eval m = .map (some b)) (key : Value) (kl : Lit) (hx : a.eval x = key) (hkey : keyOf P k key = some kl) (es : Array MapEntry) (clock : Nat) (hb : w.heap[b]? = some (.map es clock)) (hks : ∀ y ∈ es.toList, ∃ l, keyOf P k y.key = some l)
    (hhit : ∀ y ∈ es.toList, y.key = key → wpList P ops Q rest (a.put o.dst (.tuple #[y.val, .bool true])) w)
    (hmiss : wpList P ops Q rest (a.put o.dst (.tuple #[z, .bool false])) w) : wpList P ops Q (o :: rest) a w := by
  refine wpList_plain hg fun K' hK' => ?_
  rcases K.find w hkey es.toList hks with ⟨h1, h2⟩ | ⟨j, e0, h1, h2, h3⟩
  · have hrun : (Instr.lookup t (.map (some b)) key true).run P w = .ok (.tuple #[z, .bool false]) w := by simp [Instr.lookup, run_underlying ht, MapKept.run_getObj_map hb, K.check w _ hkey, h1, hz, Result.andThen]
    unfold Oper.wp
    simp [execOp, hop, hm, hx, hrun, Result.andThen]
    exact hK' _ _ hmiss
  · have hrun : (Instr.lookup t (.map (some b)) key true).run P w = .ok (.tuple #[e0.val, .bool true]) w := by simp [Instr.lookup, run_underlying ht, MapKept.run_getObj_map hb, K.check w _ hkey, h1, Result.andThen]
    unfold Oper.wp
    simp [execOp, hop, hm, hx, hrun, Result.andThen]
    exact hK' _ _ (hhit e0 (List.mem_of_getElem? h2) h3)
theorem mx_put {Pm : Obj → Prop} {w : World} {b : Nat} {es es' : Array MapEntry} {clock clock' : Nat} (hb : w.heap[b]? = some (.map es clock)) (hp : Pm (.map es' clock')) : BelowX b Pm w.heap.size w (ChangeMaps.setBlock w b (.map es' clock')) := by
  have hlt := blk_lt hb
  have hh : ∀ k, k ≠ b → (ChangeMaps.setBlock w b (.map es' clock')).heap[k]? = w.heap[k]? := fun k hk => by simp [ChangeMaps.setBlock, Array.getElem?_setIfInBounds, Ne.symm hk]
  have hs : (ChangeMaps.setBlock w b (.map es' clock')).heap[b]? = some (.map es' clock') := by simp [ChangeMaps.setBlock, Array.getElem?_setIfInBounds, hlt]
  refine ⟨rfl, rfl, rfl, by simp [ChangeMaps.setBlock], fun k hk hc => ?_, fun {p} hp => ?_, fun o ho _ => ⟨_, hs, hp⟩⟩
  · rcases hc with hc | ⟨cs, t, fr, hc⟩
    · exact hh k hc
    · refine hh k ?_
      rintro rfl
      rw [hb] at hc
      cases hc
  · by_cases e : p.block = b
    · unfold World.cell?
      rw [e, hs, hb]
    · exact World.cell?_of_block (w := w) (hh p.block e)
theorem mx_update {w : World} (hg : o.guard = none) (m x v : Operand) (t : TypeId) (hop : o.op = Op.mapUpdate t m x v) (k e : TypeId) (K : Maps.Keyed P k) (ht : P.underlying t = some (.map k e)) (b : Nat)
    (hm : a.eval m = .map (some b)) (key val : Value) (kl : Lit) (hx : a.eval x = key) (hv : a.eval v = val) (hkey : keyOf P k key = some kl) (es : Array MapEntry) (clock : Nat) (hb : w.heap[b]? = some (.map es clock)) (hks : ∀ y ∈ es.toList, ∃ l, keyOf P k y.key = some l)
    (Pm : Obj → Prop) (hP : ∀ es' clock', (∀ y ∈ es'.toList, y ∈ es.toList ∨ (y.key = key ∧ y.val = val)) → Pm (.map es' clock'))
    (hK : ∀ w1, BelowX b Pm w.heap.size w w1 → wpList P ops Q rest (a.put o.dst undef) w1) : wpList P ops Q (o :: rest) a w := by
  refine wpList_plain hg fun K' hK' => ?_
  rcases K.find w hkey es.toList hks with ⟨h1, h2⟩ | ⟨j, e0, h1, h2, h3⟩
  · have hrun : (Instr.mapUpdate t (.map (some b)) key val).run P w = .ok () (ChangeMaps.setBlock w b (.map (es.push ⟨key, val, clock⟩) (clock + 1))) := by
      simp [Instr.mapUpdate, run_underlying ht, MapKept.run_getObj_map hb, K.check w false hkey, h1, MapKept.run_setObj_map _ hb, Result.andThen, ChangeMaps.setBlock]
    have hp := hP (es.push ⟨key, val, clock⟩) (clock + 1) (fun y hy => by
      simp only [Array.toList_push, List.mem_append, List.mem_singleton] at hy
      rcases hy with hy | rfl
      · exact .inl hy
      · exact .inr ⟨rfl, rfl⟩)
    unfold Oper.wp
    simp [execOp, hop, hm, hx, hv, hrun, Result.andThen]
    exact hK' _ _ (hK _ (mx_put hb hp))
  · have hj : es[j]? = some e0 := by simpa using h2
    have hjl : j < es.toList.length := (List.getElem?_eq_some_iff.1 h2).1
    have hlist : (es.modify j (fun e' => { e' with key := key, val := val })).toList = es.toList.set j { e0 with key := key, val := val } := by rw [Array.toList_modify, ChangeMaps.modify_eq_set _ _ _ _ h2]
    have hrun : (Instr.mapUpdate t (.map (some b)) key val).run P w = .ok () (ChangeMaps.setBlock w b (.map (es.modify j (fun e' => { e' with key := key, val := val })) clock)) := by
      simp [Instr.mapUpdate, run_underlying ht, MapKept.run_getObj_map hb, K.check w false hkey, h1, hj, h3, K.stays w hkey, MapKept.run_setObj_map _ hb, Result.andThen, ChangeMaps.setBlock]
    have hp := hP (es.modify j (fun e' => { e' with key := key, val := val })) clock (fun y hy => by
      rw [hlist] at hy
      rcases List.mem_or_eq_of_mem_set hy with hy | rfl
      · exact .inl hy
      · exact .inr ⟨rfl, rfl⟩)
    unfold Oper.wp
    simp [execOp, hop, hm, hx, hv, hrun, Result.andThen]
    exact hK' _ _ (hK _ (mx_put hb hp))
end
/-- What a struct of whole numbers reads as where it is a map's key. -/
theorem key_ints {P : Program} {k : TypeId} {fs : Array Field} (hu : P.underlying k = some (.struct fs)) (kt : P.keyType k = true) (hp : 0 < P.types.size) {xs : List Int} (hc : P.cellsOf k = xs.length) (hw : ∀ x ∈ xs, (Lit.int .i64 x).wf = true) (hl : fs.size = xs.length)
    (hf : ∀ j (h : j < fs.size), fs[j].offset = j ∧ (fs[j].name != "_") = true ∧ P.underlying fs[j].type = some (.int .i64) ∧ P.cellsOf fs[j].type = 1) : ∃ l, keyOf P k (.agg (xs.map (Value.int .i64)).toArray) = some l := by
  obtain ⟨d, hd⟩ : ∃ d, P.types.size = d + 1 := ⟨P.types.size - 1, by omega⟩
  have hall : fs.all (fun f => f.name != "_") = true := by
    rw [Array.all_eq_true]
    intro j hj
    exact (hf j hj).2.1
  have key : ∃ ys, P.keyLits (d + 1 + 1) k (xs.map (Value.int .i64)) = some ys := by
    unfold Program.keyLits
    simp only [hu]
    rw [if_pos ⟨by rw [List.length_map, hc], hall⟩]
    have : ∀ l : List Field, (∀ f ∈ l, f ∈ fs) → ∃ zs, l.mapM (fun f => P.keyLits (d + 1) f.type (((xs.map (Value.int .i64)).drop f.offset).take (P.cellsOf f.type))) = some zs := by
      intro l
      induction l with
      | nil => exact fun _ => ⟨[], rfl⟩
      | cons f l ih =>
        intro h
        obtain ⟨zs, hz⟩ := ih (fun g hg => h g (by simp [hg]))
        obtain ⟨j, hj, e⟩ := Array.mem_iff_getElem.1 (h f (by simp))
        obtain ⟨h1, _, h3, h4⟩ := hf j hj
        rw [e] at h1 h3 h4
        have hjx : j < xs.length := by omega
        have : P.keyLits (d + 1) f.type (((xs.map (Value.int .i64)).drop f.offset).take (P.cellsOf f.type)) = some [.int .i64 xs[j]] := by
          rw [h1, h4, List.drop_eq_getElem_cons (by simpa using hjx)]
          unfold Program.keyLits
          simp [h3, hw xs[j] (List.getElem_mem hjx)]
        refine ⟨[.int .i64 xs[j]] :: zs, ?_⟩
        rw [List.mapM_cons, this]
        simp [hz]
    obtain ⟨zs, hz⟩ := this fs.toList (fun f hf => by simpa using hf)
    rw [hz]
    exact ⟨_, rfl⟩
  obtain ⟨ys, hy⟩ := key
  refine ⟨.string (keyBytes ys), ?_⟩
  unfold keyOf
  simp only [hu]
  rw [if_pos (by rw [kt]; simp [Value.formed, hu, hc]), hd]
  simp [Value.cells, hy]
end Go.Proofs.Ytockkelkdimehaa.P
