/- Drawn trees: l3Tree, l3Any: a list of nodes of bounded length. -/
import Derived.Test.YtekpggmnnfjphaaXDraw
import Derived.Test.YtekpggmnnfjphaaXTree
import Derived.Test.YtekpggmnnfjphaaG93
namespace Go.Proofs.Ytekpggmnnfjphaa.X
open Go Go.RowKit Go.Proofs.YtekpggmnnfjphaaW.PrintWords Go.Proofs.YtekpggmnnfjphaaW.PrintLast Go.Proofs.YtekpggmnnfjphaaW.PrintMore Go.Proofs.Ytekpggmnnfjphaa.P
theorem drTreeLoop {b : List Int} (hb : b.length ≤ 4194304) : ∀ (n : Nat) (l : List S48) (i h : Int), 0 ≤ i → i ≤ (b.length : Int) → 1 ≤ l.length → l.length + n ≤ 4194304 →
    B.EvP (fun k => spec_l3Tree.l0 k l (n : Int) b i h) (B.Cu b fun l' => l'.length = l.length + n) := by
  intro n
  induction n with
  | zero =>
    intro l i h h0 h1 _ _
    refine B.EvP.succ ?_
    simp only [spec_l3Tree.l0, show ¬ ((0 : Nat) : Int) > 0 by decide, ↓reduceIte]
    exact B.EvP.pure ⟨rfl, h0, h1⟩
  | succ n ih =>
    intro l i h h0 h1 hl hn
    refine B.EvP.succ ?_
    have e1 : wrap64 ((l.length : Int) - 1) = (l.length : Int) - 1 := B.wid (by omega) (by omega)
    have e2 : wrap64 (((n + 1 : Nat) : Int) - 1) = (n : Int) := by rw [B.wid (by omega) (by omega)]; omega
    simp only [spec_l3Tree.l0, show ((n + 1 : Nat) : Int) > 0 by omega, e1, e2, show 0 ≤ (l.length : Int) - 1 by omega, show (l.length : Int) - 1 < (l.length : Int) by omega, show l.length < 8796093022208 by omega, ↓reduceIte]
    have fin : ∀ (x : S48) (i h : Int), 0 ≤ i → i ≤ (b.length : Int) → B.EvP (fun k => spec_l3Tree.l0 k (l ++ [x]) (n : Int) b i h) (B.Cu b fun l' => l'.length = l.length + (n + 1)) := fun x i h h0 h1 =>
      (ih (l ++ [x]) i h h0 h1 (by simp) (by simp; omega)).mono fun v hv => ⟨by have := hv.1; simp at this; simp only; omega, hv.2⟩
    refine B.EvP.bind (drBelow hb h _ h0 h1) ?_
    rintro ⟨v, i, h⟩ ⟨q, h0, h1⟩
    refine B.EvP.bind (drOnce hb h _ h0 h1) ?_
    rintro ⟨v2, i, h⟩ ⟨_, h0, h1⟩
    refine B.EvP.ite (fun _ => ?_) (fun _ => ?_)
    all_goals
      refine B.EvP.ite (fun _ => ?_) (fun _ => ?_)
      all_goals
        refine B.EvP.bind (drLabel hb h h0 h1) ?_
        rintro ⟨v3, i, h⟩ ⟨_, h0, h1⟩
        exact fin _ i h h0 h1
theorem drTree {b : List Int} (hb : b.length ≤ 4194304) {i : Int} (h : Int) (most : Int) (hm : most ≤ 1000) (h0 : 0 ≤ i) (h1 : i ≤ (b.length : Int)) : B.EvP (fun k => spec_l3Tree.f k b i h most) (B.Cu b fun l => 1 ≤ l.length ∧ l.length ≤ 1001) := by
  unfold spec_l3Tree.f
  refine B.EvP.bind (drLabel hb h h0 h1) ?_
  rintro ⟨v, i, h⟩ ⟨_, h0, h1⟩
  refine B.EvP.bind (drBelow hb h most h0 h1) ?_
  rintro ⟨n, i, h⟩ ⟨q, h0, h1⟩
  obtain ⟨m, hm'⟩ : ∃ m : Nat, n = (m : Int) := ⟨n.toNat, by have := q.1; simp only at this; omega⟩
  subst hm'
  have hle : m ≤ 1000 := by
    have q2 := q.2.1
    have q3 := q.2.2
    simp only at q2 q3
    omega
  refine (drTreeLoop hb m [⟨v, 0⟩] i h h0 h1 (by simp) (by simp; omega)).mono fun t ht => ⟨?_, ht.2⟩
  have := ht.1
  simp at this
  omega
theorem drAnyLoop0 {b : List Int} (hb : b.length ≤ 4194304) : ∀ (n : Nat) (l : List S48) (i h : Int), 0 ≤ i → i ≤ (b.length : Int) → l.length ≤ 1001 → 25 ≤ l.length + n →
    B.EvP (fun k => spec_l3Any.l0 k l b i h) (B.Cu b fun l' => l'.length ≤ 1001) := by
  intro n
  induction n with
  | zero =>
    intro l i h h0 h1 hl hn
    refine B.EvP.succ ?_
    simp only [spec_l3Any.l0]
    refine B.EvP.bind (drBelow hb h 2 h0 h1) ?_
    rintro ⟨v, i, h⟩ ⟨q, h0, h1⟩
    have q1 := q.1
    have q2 := q.2.1 (by omega)
    simp only at q1 q2 ⊢
    rw [B.wid (by omega) (by omega)]
    simp only [show ¬ ((l.length : Int) < 24 + v) by omega, ↓reduceIte]
    exact B.EvP.pure ⟨hl, h0, h1⟩
  | succ n ih =>
    intro l i h h0 h1 hl hn
    refine B.EvP.succ ?_
    simp only [spec_l3Any.l0]
    refine B.EvP.bind (drBelow hb h 2 h0 h1) ?_
    rintro ⟨v, i, h⟩ ⟨q, h0, h1⟩
    have q1 := q.1
    have q2 := q.2.1 (by omega)
    simp only at q1 q2 ⊢
    rw [B.wid (by omega) (by omega)]
    refine B.EvP.ite (fun c => ?_) (fun c => B.EvP.pure ⟨hl, h0, h1⟩)
    simp only [show l.length < 8796093022208 by omega, ↓reduceIte]
    exact ih _ _ _ h0 h1 (by simp; omega) (by simp; omega)
theorem drAnyLoop1 {b : List Int} (hb : b.length ≤ 4194304) : ∀ (n : Nat) (l : List S48) (i h : Int), 0 ≤ i → i ≤ (b.length : Int) → l.length ≤ 1001 → 14 ≤ l.length + n →
    B.EvP (fun k => spec_l3Any.l1 k l b i h) (B.Cu b fun l' => l'.length ≤ 1001) := by
  intro n
  induction n with
  | zero =>
    intro l i h h0 h1 hl hn
    refine B.EvP.succ ?_
    simp only [spec_l3Any.l1]
    refine B.EvP.bind (drBelow hb h 2 h0 h1) ?_
    rintro ⟨v, i, h⟩ ⟨q, h0, h1⟩
    have q1 := q.1
    have q2 := q.2.1 (by omega)
    simp only at q1 q2 ⊢
    rw [B.wid (by omega) (by omega)]
    simp only [show ¬ ((l.length : Int) < 13 + v) by omega, ↓reduceIte]
    exact B.EvP.pure ⟨hl, h0, h1⟩
  | succ n ih =>
    intro l i h h0 h1 hl hn
    refine B.EvP.succ ?_
    simp only [spec_l3Any.l1]
    refine B.EvP.bind (drBelow hb h 2 h0 h1) ?_
    rintro ⟨v, i, h⟩ ⟨q, h0, h1⟩
    have q1 := q.1
    have q2 := q.2.1 (by omega)
    simp only at q1 q2 ⊢
    rw [B.wid (by omega) (by omega)]
    refine B.EvP.ite (fun c => ?_) (fun c => B.EvP.pure ⟨hl, h0, h1⟩)
    simp only [show l.length < 8796093022208 by omega, ↓reduceIte]
    exact ih _ _ _ h0 h1 (by simp; omega) (by simp; omega)
theorem drAny {b : List Int} (hb : b.length ≤ 4194304) {i : Int} (h : Int) (most : Int) (hm : most ≤ 1000) (h0 : 0 ≤ i) (h1 : i ≤ (b.length : Int)) : B.EvP (fun k => spec_l3Any.f k b i h most) (B.Cu b fun l => l.length ≤ 1001) := by
  unfold spec_l3Any.f
  refine B.EvP.bind (drTree hb h most hm h0 h1) ?_
  rintro ⟨l, i, h⟩ ⟨⟨hl, hl'⟩, h0, h1⟩
  simp only at hl hl'
  refine B.EvP.bind (drBelow hb h (l.length : Int) h0 h1) ?_
  rintro ⟨v, i, h⟩ ⟨q, h0, h1⟩
  have q1 := q.1
  have q2 := q.2.1 (by omega)
  refine B.EvP.bind (drBelow hb h 18 h0 h1) ?_
  rintro ⟨s, i, h⟩ ⟨_, h0, h1⟩
  simp only at q1 q2 ⊢
  refine B.EvP.ite (fun _ => ?_) (fun _ => ?_)
  · refine B.EvP.bind (drAnyLabel hb h h0 h1) ?_
    rintro ⟨v3, i, h⟩ ⟨_, h0, h1⟩
    rw [if_pos q1, if_pos q2]
    exact B.EvP.pure ⟨by simp; omega, h0, h1⟩
  refine B.EvP.ite (fun _ => ?_) (fun _ => ?_)
  · rw [if_pos q1, if_pos q2]
    refine B.EvP.bind (drPick hb h _ (by simp) h0 h1) ?_
    rintro ⟨v3, i, h⟩ ⟨_, h0, h1⟩
    exact B.EvP.pure ⟨by simp; omega, h0, h1⟩
  refine B.EvP.ite (fun _ => ?_) (fun _ => ?_)
  · rw [if_pos (by omega)]
    exact B.EvP.pure ⟨by simp; omega, h0, h1⟩
  refine B.EvP.ite (fun _ => drAnyLoop0 hb 25 l i h h0 h1 (by omega) (by omega)) (fun _ => ?_)
  exact B.EvP.ite (fun _ => drAnyLoop1 hb 14 _ i h h0 h1 (by simp) (by simp)) (fun _ => B.EvP.pure ⟨hl', h0, h1⟩)
end Go.Proofs.Ytekpggmnnfjphaa.X
