/- Drawn costs: three lists of bounded lengths. -/
import Derived.Test.YtekpggmnnfjphaaXUnit
import Derived.Test.YtekpggmnnfjphaaXDraw
import Derived.Test.YtekpggmnnfjphaaG58
import Derived.Test.YtekpggmnnfjphaaG59
namespace Go.Proofs.Ytekpggmnnfjphaa.X
open Go Go.RowKit Go.Proofs.YtekpggmnnfjphaaW.PrintWords Go.Proofs.YtekpggmnnfjphaaW.PrintLast Go.Proofs.YtekpggmnnfjphaaW.PrintMore Go.Proofs.Ytekpggmnnfjphaa.P
/-- A drawn cost: six, six, and thirty-six numbers; the cursor stays in the code. -/
def CuC (b : List Int) (t : List Int × List Int × List Int × Int × Int) : Prop := (t.1.length = 6 ∧ t.2.1.length = 6 ∧ t.2.2.1.length = 36) ∧ 0 ≤ t.2.2.2.1 ∧ t.2.2.2.1 ≤ (b.length : Int)
theorem drCost0 {b : List Int} {i h : Int} (h0 : 0 ≤ i) (h1 : i ≤ (b.length : Int)) : ∀ (n x : Nat) (d e r : List Int), d.length = 6 → e.length = 6 → r.length = 36 → x + n = 36 →
    B.EvP (fun k => spec_l7Cost.l0 k (x : Int) b i h d e r) (CuC b) := by
  intro n
  induction n with
  | zero =>
    intro x d e r hd he hr hx
    refine B.EvP.succ ?_
    simp only [spec_l7Cost.l0, hr, show ¬ ((x : Int) < ((36 : Nat) : Int)) by omega, ↓reduceIte]
    exact B.EvP.pure ⟨⟨hd, he, hr⟩, h0, h1⟩
  | succ n ih =>
    intro x d e r hd he hr hx
    refine B.EvP.succ ?_
    simp only [spec_l7Cost.l0, hr, show ((x : Int) < ((36 : Nat) : Int)) by omega, show 0 ≤ (x : Int) by omega, ↓reduceIte, B.wsucc (show x < 9223372036854775807 by omega)]
    exact ih (x + 1) _ _ _ hd he (by simp [hr]) (by omega)
theorem drCost1 {b : List Int} (hb : b.length ≤ 4194304) : ∀ (n x m y : Nat) (i h : Int) (d e r : List Int), 0 ≤ i → i ≤ (b.length : Int) → d.length = 6 → e.length = 6 → r.length = 36 → x + n = 6 → y + m = 6 →
    B.EvP (fun k => spec_l7Cost.l1 k (x : Int) b i h d e r) (CuC b) ∧ (x < 6 → B.EvP (fun k => spec_l7Cost.l2 k (x : Int) (y : Int) b i h d e r) (CuC b)) := by
  intro n
  induction n with
  | zero =>
    intro x m y i h d e r h0 h1 hd he hr hx hy
    refine ⟨?_, fun c => absurd c (by omega)⟩
    refine B.EvP.succ ?_
    simp only [spec_l7Cost.l1, show ¬ ((x : Int) < 6) by omega, ↓reduceIte]
    exact B.EvP.pure ⟨⟨hd, he, hr⟩, h0, h1⟩
  | succ n ih =>
    intro x m
    have two : ∀ (m y : Nat) (i h : Int) (d e r : List Int), 0 ≤ i → i ≤ (b.length : Int) → d.length = 6 → e.length = 6 → r.length = 36 → x + (n + 1) = 6 → y + m = 6 → B.EvP (fun k => spec_l7Cost.l2 k (x : Int) (y : Int) b i h d e r) (CuC b) := by
      intro m
      induction m with
      | zero =>
        intro y i h d e r h0 h1 hd he hr hx hy
        refine B.EvP.succ ?_
        simp only [spec_l7Cost.l2, show ¬ ((y : Int) < 6) by omega, ↓reduceIte, B.wsucc (show x < 9223372036854775807 by omega)]
        exact (ih (x + 1) 6 0 i h d e r h0 h1 hd he hr (by omega) (by omega)).1
      | succ m ihm =>
        intro y i h d e r h0 h1 hd he hr hx hy
        refine B.EvP.succ ?_
        have a1 : (y : Int) < 6 := by omega
        have a2 : 0 ≤ (x : Int) * 6 + (y : Int) := by omega
        have a3 : (x : Int) * 6 + (y : Int) < ((36 : Nat) : Int) := by omega
        have a4 := B.wsucc (show y < 9223372036854775807 by omega)
        have e2 : wrap64 ((x : Int) * 6 + (y : Int)) = (x : Int) * 6 + (y : Int) := B.wid (by omega) (by omega)
        have e1 : wrap64 ((x : Int) * 6) = (x : Int) * 6 := B.wid (by omega) (by omega)
        simp only [spec_l7Cost.l2, a1, ↓reduceIte, e1, e2, hr, a2, a3, a4]
        clear e1 e2 a4
        refine B.EvP.ite (fun _ => ihm (y + 1) i h d e r h0 h1 hd he hr hx (by omega)) (fun _ => ?_)
        refine B.EvP.bind (drPick hb h [0, 1, 4, 9, 1000] (by decide) h0 h1) ?_
        rintro ⟨v, i, h⟩ ⟨_, h0, h1⟩
        exact ihm (y + 1) i h d e _ h0 h1 hd he (by simp [hr]) hx (by omega)
    intro y i h d e r h0 h1 hd he hr hx hy
    refine ⟨?_, fun _ => two m y i h d e r h0 h1 hd he hr hx hy⟩
    refine B.EvP.succ ?_
    simp only [spec_l7Cost.l1, show ((x : Int) < 6) by omega, show 0 ≤ (x : Int) by omega, hd, he, show (x : Int) < ((6 : Nat) : Int) by omega, ↓reduceIte]
    refine B.EvP.bind (drBelow hb h 7 h0 h1) ?_
    rintro ⟨v, i, h⟩ ⟨_, h0, h1⟩
    refine B.EvP.bind (drBelow hb h 7 h0 h1) ?_
    rintro ⟨v2, i, h⟩ ⟨_, h0, h1⟩
    exact two 6 0 i h _ _ r h0 h1 (by simp [hd]) (by simp [he]) hr hx (by omega)
theorem drCost {b : List Int} (hb : b.length ≤ 4194304) {i : Int} (h : Int) (h0 : 0 ≤ i) (h1 : i ≤ (b.length : Int)) : B.EvP (fun k => spec_l7Cost.f k b i h) (CuC b) := by
  simp only [spec_l7Cost.f]
  refine B.EvP.bind (B.EvP.of evUnit (P := fun t => t.1.length = 6 ∧ t.2.1.length = 6 ∧ t.2.2.length = 36) ⟨rfl, rfl, rfl⟩) ?_
  rintro ⟨d, e, r⟩ ⟨hd, he, hr⟩
  refine B.EvP.bind (drBelow hb h 4 h0 h1) ?_
  rintro ⟨v, i, h⟩ ⟨_, h0, h1⟩
  refine B.EvP.ite (fun _ => B.EvP.pure ⟨⟨hd, he, hr⟩, h0, h1⟩) (fun _ => ?_)
  refine B.EvP.ite (fun _ => drCost0 h0 h1 36 0 d e r hd he hr (by omega)) (fun _ => ?_)
  exact (drCost1 hb 6 0 6 0 i h d e r h0 h1 hd he hr (by omega) (by omega)).1
def CuA (b : List Int) (t : List Int × List Int × List Int × Int × Int) : Prop := (t.1.length ≤ 36 ∧ t.2.1.length ≤ 36 ∧ t.2.2.1.length ≤ 36) ∧ 0 ≤ t.2.2.2.1 ∧ t.2.2.2.1 ≤ (b.length : Int)
theorem drAnyCost {b : List Int} (hb : b.length ≤ 4194304) {i : Int} (h : Int) (h0 : 0 ≤ i) (h1 : i ≤ (b.length : Int)) : B.EvP (fun k => spec_l7Any.f k b i h) (CuA b) := by
  simp only [spec_l7Any.f]
  refine B.EvP.bind (drCost hb h h0 h1) ?_
  rintro ⟨d, e, r, i, h⟩ ⟨⟨hd, he, hr⟩, h0, h1⟩
  simp only at hd he hr
  refine B.EvP.bind (drBelow hb h 14 h0 h1) ?_
  rintro ⟨v, i, h⟩ ⟨_, h0, h1⟩
  refine B.EvP.ite (fun _ => ?_) (fun _ => ?_)
  · refine B.EvP.bind (drBelow hb h 6 h0 h1) ?_
    rintro ⟨v, i, h⟩ ⟨q, h0, h1⟩
    have q1 := q.1
    have q2 := q.2.1 (by omega)
    refine B.EvP.bind (drPick hb h [-1, 1001, 1000] (by decide) h0 h1) ?_
    rintro ⟨v3, i, h⟩ ⟨_, h0, h1⟩
    simp only at q1 q2 ⊢
    simp only [q1, hd, show v < ((6 : Nat) : Int) by omega, ↓reduceIte]
    exact B.EvP.pure ⟨⟨by simp [hd], by simp [he], by simp [hr]⟩, h0, h1⟩
  refine B.EvP.ite (fun _ => ?_) (fun _ => ?_)
  · refine B.EvP.bind (drBelow hb h 36 h0 h1) ?_
    rintro ⟨v, i, h⟩ ⟨q, h0, h1⟩
    have q1 := q.1
    have q2 := q.2.1 (by omega)
    simp only at q1 q2 ⊢
    simp only [q1, hr, show v < ((36 : Nat) : Int) by omega, ↓reduceIte]
    exact B.EvP.pure ⟨⟨by simp [hd], by simp [he], by simp [hr]⟩, h0, h1⟩
  refine B.EvP.ite (fun _ => ?_) (fun _ => B.EvP.pure ⟨⟨by simp [hd], by simp [he], by simp [hr]⟩, h0, h1⟩)
  simp only [he, show 1 ≤ ((6 : Nat) : Int) by omega, ↓reduceIte]
  exact B.EvP.pure ⟨⟨by simp [hd], by simp [he], by simp [hr]⟩, h0, h1⟩
end Go.Proofs.Ytekpggmnnfjphaa.X
